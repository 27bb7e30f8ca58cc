/- A region whose order Go leaves open, at whose end an entry of a map is laid and stored (m[k] += v). No condition. -/
import Derived.Test.YtljfmaaadnoggaaVX
import Derived.Test.YtljfmaaadnoggaaWE
set_option linter.unusedSimpArgs false
set_option linter.unusedVariables false
namespace Go.Proofs.Ytljfmaaadnoggaa.Abs
open Go Go.RowKit
variable {w w' w'':World} {F F' F'' O O' O'':Nat→Prop} {μ μ' μ'':Nat→Nat} {K K' K'':Nat→Prop} {ft ft':Nat→Nat→Prop} {P:Program} {R:Type}
def isLk (o:Oper):Bool:=match o.op with
 | .lookup _ _ _ _=>true
 | _=>false
def noGd (o:Oper):Bool:=match o.guard with
 | none=>true
 | some _=>false
def lkE (E:Env) (T:TSt) (id:Nat) (t0:TypeId) (o:Oper):Option Dyn:=match o.op with
 | .lookup t x k false=>match T.val x,T.val k,E.P.underlying t with
  | .mp id',.agg cs,some (.map kt et)=>match Nat.beq id' id&&Nat.beq t t0,zvT E.P et,keyG E kt cs with
   | true,some (.d yz),some ⟨j,kk⟩=>match keyS E.P kt j,lookH T.H id with
    | true,some (.dmap i l)=>match kar i with
     | 0=>none
     | n+1=>match decEq ((lts i).take (n+1)) (lts j),(lts i).drop (n+1) with
      | .isTrue _,[v]=>match leafD v (.d yz) with
       | some ⟨v',z⟩=>match decEq v' v with
        | .isTrue e=>some ⟨v,mget (keyPS i j (n+1) kk) (valPS i (n+1) v) (e▸z) l⟩
        | .isFalse _=>none
       | none=>none
      | _,_=>none
    | _,_=>none
   | _,_,_=>none
  | _,_,_=>none
 | _=>none
def evDrX (E:Env) (cts:List CT) (ops:List Oper) (B:Array Nat) (p id:Nat) (t0:TypeId):List Oper→Nat→TSt→(TSt→Option R)→Option R
 | [],_,T,κ=>κ T
 | o::rest,i,T,κ=>match okDst T o.dst&&noGd o with
  | true=>match isLk o with
   | true=>match lkE E (T.mask ops B [(p+2,[id])] i) id t0 o with
    | some y=>evDrX E cts ops B p id t0 rest (i+1) (T.put o.dst (.d y)) κ
    | none=>none
   | false=>drOne E cts ops B [(p,[id]),(p+2,[id])] o i T true (fun T=>evDrX E cts ops B p id t0 rest (i+1) T κ)
  | false=>none
def entE (E:Env) (ops:List Oper) (B:Array Nat) (p id:Nat) (t:TypeId) (m k m3 x:Operand) (d1 d2:Nat) (T:TSt) (κ:TSt→Option R):Option R:=
 match (T.mask ops B [(p+2,[id])] p).val m,(T.mask ops B [(p+2,[id])] p).val k,E.P.underlying t with
 | .mp id',.agg cs,some (.map kt et)=>match Nat.beq id' id,zvT E.P et,keyG E kt cs with
  | true,some (.d yz0),some ⟨j,kk⟩=>match keyS E.P kt j,lookH T.H id,TSt.val ⟨T.nt,T.N,(d1,.top)::(d2,.top)::T.tm,T.H⟩ m3 with
   | true,some (.dmap i l),.mp id''=>match Nat.beq id'' id,kar i with
    | true,n+1=>match decEq ((lts i).take (n+1)) (lts j),(lts i).drop (n+1) with
     | .isTrue _,[v]=>match leafD v (.d yz0),leafD v (TSt.val ⟨T.nt,T.N,(d1,.top)::(d2,.top)::T.tm,T.H⟩ x) with
      | some yz,some y0=>match bld (.st i) (get j kk++[yz]),bld (.st i) (get j kk++[y0]) with
       | some _,some y=>κ ⟨T.nt,T.N,(d1,.top)::(d2,.top)::T.tm,updH T.H [(id,some (.dmap i (mput (keyPS i j (n+1) kk) l y)))]⟩
       | _,_=>none
      | _,_=>none
     | _,_=>none
    | _,_=>none
   | _,_,_=>none
  | _,_,_=>none
 | _,_,_=>none
def splitE:List Oper→Option (List Oper×Oper×Oper×Oper)
 | []=>none
 | [_]=>none
 | [_,_]=>none
 | o1::o2::o3::r=>match r with
  | []=>match o1.op with
   | .mapEntry _ _ _=>some ([],o1,o2,o3)
   | _=>none
  | _::_=>match splitE (o2::o3::r) with
   | some (pre,q)=>some (o1::pre,q)
   | none=>none
theorem splitE_eq:∀ {l pre:List Oper} {o1 o2 o3:Oper},splitE l=some (pre,o1,o2,o3)→l=pre++[o1,o2,o3]
 | [],_,_,_,_,h=>by cases h
 | [_],_,_,_,_,h=>by cases h
 | [_,_],_,_,_,_,h=>by cases h
 | a::b::c::r,pre,o1,o2,o3,h=>by
  simp only [splitE] at h
  split at h
  ·split at h
   ·cases h;rfl
   ·cases h
  ·split at h
   ·rename_i pre' q hq
    obtain ⟨q1,q2,q3⟩:=q
    cases h
    rw [splitE_eq hq];rfl
   ·cases h
def entO (o1 o2 o3:Oper):Option (TypeId×Operand×Operand×Nat×Nat×Operand×Operand):=match o1.op,o2.op,o3.op with
 | .mapEntry t m k,.extract (.tmp a) 1,.entryStore _ m3 (.tmp b) x=>match o1.dst,o2.dst,o3.dst with
  | some d1,some d2,none=>match noGd o1&&(noGd o2&&(noGd o3&&(Nat.beq a d1&&Nat.beq b d2))) with
   | true=>some (t,m,k,d1,d2,m3,x)
   | false=>none
  | _,_,_=>none
 | _,_,_=>none
def allB (B:Array Nat) (i:Nat):Nat→Bool
 | 0=>true
 | n+1=>bit B i n&&allB B i n
def evDrawE (E:Env) (cts:List CT) (ops:List Oper) (B:Array Nat) (id:Nat) (s:TSt) (κ:TSt→Option R):Option R:=
 match splitE ops with
 | some (pre,o1,o2,o3)=>match entO o1 o2 o3 with
  | some (t,m,k,d1,d2,m3,x)=>match (statOk ops B [(pre.length+2,[id])]&&(bit B (pre.length+1) pre.length&&allB B (pre.length+2) (pre.length+2)))&&((!hidT B (pre.length+1) d1 0 ops&&!Nat.beq d1 d2)&&(d1.blt s.nt&&d2.blt s.nt)) with
   | true=>match E.P.underlying t with
    | some (.map _ et)=>match zvT E.P et with
     | some (.d _)=>evDrX E cts ops B pre.length id t pre 0 s fun T=>entE E ops B pre.length id t m k m3 x d1 d2 T κ
     | _=>none
    | _=>none
   | false=>none
  | none=>none
 | none=>none
theorem Opd.more {s s':SSt} {x:Operand} {a:AV} (h:Opd s x a) (l:Less s s'):Opd s' x a:=fun hs=>h (hs.less l)
theorem allB_ok {B:Array Nat} {i:Nat}:∀ {n:Nat},allB B i n=true→∀ j,j < n→bit B i j=true
 | 0,_,j,hj=>by omega
 | n+1,h,j,hj=>by
  simp only [allB,Bool.and_eq_true] at h
  by_cases e:j=n
  ·rw [e];exact h.1
  ·exact allB_ok h.2 j (by omega)
theorem ovH_nil {D:Nat→Bool} {H0:Hp} {id:Nat}:∀ {q:List RE},(∀ j e,reAt q j=some e→e.up=[])→ovH D H0 q id=H0 id
 | [],_=>rfl
 | e::r,h=>by
  have h1:=h r.length e (by simp [reAt])
  simp only [ovH,h1,hasId,List.any_nil,Bool.and_false]
  exact ovH_nil fun j e' hj=>h j e' (by
   have:=reAt_lt hj
   simp only [reAt];rw [if_neg (by omega)];exact hj)
theorem kD_less {D D':Nat→Bool} {N0:Nat}:∀ {q:List RE},(∀ j,j < q.length→D j=D' j)→kD D N0 q=kD D' N0 q
 | [],_=>rfl
 | e::r,h=>by
  funext id
  simp only [kD]
  rw [kD_less (D':=D') fun j hj=>h j (by simp;omega),h r.length (by simp)]
theorem reAt_cons {e:RE} {r:List RE} {j:Nat} (h:j < r.length):reAt (e::r) j=reAt r j:=by
 simp only [reAt];rw [if_neg (by omega)]
def Laid {i:Nat} (n:Nat) (y0:Dyn) (l lp:List (C i)):Prop:=lp=l∨∃ yz,lp=l++[yz]∧(get i yz).drop (n+1)=[y0]
theorem mget_laid {i n:Nat} {v:Ty} {z:v.dn} {p:C i→Bool} {l lp:List (C i)} (h:Laid n ⟨v,z⟩ l lp):mget p (valPS i (n+1) v) z lp=mget p (valPS i (n+1) v) z l:=by
 rcases h with rfl | ⟨yz,rfl,hz⟩
 ·rfl
 ·unfold mget
  rw [List.find?_append]
  cases l.find? p with
  | some y=>rfl
  | none=>
   simp only [Option.none_or,List.find?_cons,List.find?_nil]
   cases p yz with
   | true=>simp [valPS,hz]
   | false=>rfl
theorem look_av {i n j:Nat} {kk:C j} {v:Ty} {z:v.dn} {l:List (C i)} (hdr:(lts i).drop (n+1)=[v]):
  Imp (lookV false (dav ⟨v,z⟩) (l.map fun x=>pairK (n+1) (get i x)) ((l.findIdx? (keyPS i j (n+1) kk)).map (0+·))) (dav ⟨v,mget (keyPS i j (n+1) kk) (valPS i (n+1) v) z l⟩):=by
 simp only [mget]
 rcases find_idx (p:=keyPS i j (n+1) kk) (l:=l) with ⟨k1,k2⟩ | ⟨q,y,k1,k2,k3,k4⟩
 ·rw [k1,k2];exact (@Imp.refl _)
 ·rw [k1,k3]
  have hd0:((get i y).drop (n+1)).map (·.t)=[v]:=by
   rw [List.map_drop,get_ts,hdr]
  obtain ⟨b,hb⟩:∃ b:v.dn,(get i y).drop (n+1)=[⟨v,b⟩]:=by
   match hg:(get i y).drop (n+1),hd0 with
   | [⟨t',b⟩],h0=>
    simp only [List.map_cons,List.map_nil,List.cons.injEq,and_true] at h0
    subst h0
    exact ⟨b,rfl⟩
  have m4:((l.map fun x=>pairK (n+1) (get i x)).getD (0+q) (.top,.top)).2=dav ⟨v,b⟩:=by
   simp [List.getD,k2,pairK,hb]
  have m5:valPS i (n+1) v y=b:=by
   unfold valPS
   rw [hb]
   simp
  simp only [Option.map_some,lookV,m4,m5]
  exact (@Imp.refl _)
theorem lkE_ok {E:Env} {T:TSt} {id:Nat} {t0:TypeId} {o:Oper} {y:Dyn} {kt0 et0:TypeId} {yz0:Dyn} (ht0:E.P.underlying t0=some (.map kt0 et0)) (hz0:zvT E.P et0=some (.d yz0)) (h:lkE E T id t0 o=some y):
  (∀ c,o.op≠.defer c)∧(∃ rv,OpOk E.P o T.st ⟨rv,[],[]⟩∧Imp rv (dav y))∧∃ i l n,lookH T.H id=some (.dmap i l)∧kar i=n+1∧∀ (lp:List (C i)) (jj st:Nat),Laid n yz0 l lp→
   ∃ rv,OpOk E.P o ⟨T.nt,T.N,T.st.tm,fun id'=>if id'=id then some (.mapz (lp.map fun x=>pairK (kar i) (get i x)) jj st) else none⟩ ⟨rv,[],[]⟩∧Imp rv (dav y):=by
 unfold lkE at h
 split at h
 ·rename_i t x k ho
  split at h
  ·rename_i id' cs kt et hx hk ht
   split at h
   ·rename_i yz j kk hid hz hkg
    simp only [Bool.and_eq_true] at hid
    have e1:=Nat.eq_of_beq_eq_true hid.1
    have e2:=Nat.eq_of_beq_eq_true hid.2
    subst e1 e2
    rw [ht] at ht0
    cases ht0
    rw [hz] at hz0
    cases hz0
    split at h
    ·rename_i i l hks hl
     split at h
     ·cases h
     ·rename_i n hn
      split at h
      ·rename_i hts v _ hdr
       split at h
       ·rename_i v' z hlf
        split at h
        ·rename_i e _
         subst e
         cases h
         obtain ⟨fs,hkt,_,_⟩:=keyS_fs hks
         have hkd:=keyS_ok hks kk
         have hyz:yz0=⟨v',z⟩:=by
          simp only [leafD] at hlf
          split at hlf
          ·split at hlf
           ·exact Option.some.inj hlf
           ·cases hlf
          ·cases hlf
         have hz1:zvA E.P et0=some (dav ⟨v',z⟩):=by
          have:=(zvT_ok hz T.H T.N).1
          simp only [TA.av] at this
          rw [this,hyz]
         have key:∀ (s:SSt) (lp:List (C i)) (B:Blk),s.tm=T.st.tm→s.nt=T.nt→s.H id'=some B→BImp B (.map (lp.map fun x=>pairK (n+1) (get i x)))→mget (keyPS i j (n+1) kk) (valPS i (n+1) v') z lp=mget (keyPS i j (n+1) kk) (valPS i (n+1) v') z l→
           ∃ rv,OpOk E.P o s ⟨rv,[],[]⟩∧Imp rv (dav ⟨v',mget (keyPS i j (n+1) kk) (valPS i (n+1) v') z l⟩):=by
          intro s lp B htm hnt hB hBi hg
          have hf:=find_smap hts hks kk lp 0
          refine ⟨lookV false (dav ⟨v',z⟩) (lp.map fun x=>pairK (n+1) (get i x)) ((lp.findIdx? (keyPS i j (n+1) kk)).map (0+·)),opok_value fun {w F O μ K ft act} hs=>?_,?_⟩
          ·have hs':SR w F O μ K ⟨s.nt,s.N,s.tm,s.H.upd [(id',some (.map (lp.map fun x=>pairK (n+1) (get i x))))]⟩ ft act:=by
            refine ⟨hs.hr.imp fun id2 b' hb'=>?_,hs.nt,hs.tm,hs.df⟩
            simp only [Hp.upd] at hb'
            by_cases e:id2=id'
            ·rw [if_pos e] at hb'
             cases hb'
             exact ⟨B,by rw [e];exact hB,hBi⟩
            ·rw [if_neg e] at hb'
             exact ⟨b',hb',BImp.refl _⟩
           have hvl:∀ (xx:Operand),∀ {w F O μ K ft act},SR w F O μ K ⟨s.nt,s.N,s.tm,s.H.upd [(id',some (.map (lp.map fun x=>pairK (n+1) (get i x))))]⟩ ft act→VR w F μ K ((T.val xx).av T.H) (act.eval xx):=by
            intro xx w F O μ K ft act hs
            cases xx with
            | tmp q=>
             have:=hs.tm q
             simp only [htm] at this
             exact this
            | const u=>simp only [TSt.val,cst_av];exact ofV_ok u
            | func f=>simp only [TSt.val,TA.av,avL];exact .fn _ [] [] [] [] rfl rfl (fun i h=>by cases h) (fun i h=>by cases h)
            | global g=>simp only [TSt.val,TA.av];exact .top _
           refine ov_lookup (s:=⟨s.nt,s.N,s.tm,s.H.upd [(id',some (.map (lp.map fun x=>pairK (n+1) (get i x))))]⟩) ho (id:=id') (ka:=dav ⟨.st j,kk⟩) (fun hs=>?_) ?_ (fun hs=>?_) ht hkt hkd.1 hf hz1 hs'
           ·have:=hvl x hs
            rw [hx] at this
            simpa only [TA.av] using this
           ·simp only [Hp.upd,if_true]
           ·have:=hvl k hs
            rw [hk] at this
            exact keyG_ok hkg T.H this
          ·rw [← hg];exact look_av hdr
         refine ⟨(fun c hc=>by rw [ho] at hc;cases hc),?_,i,l,n,hl,hn,fun lp jj st hlp=>?_⟩
         ·refine key T.st l _ rfl rfl (st_at hl) ?_ rfl
          simp only [TBlk.blk,hn]
          exact BImp.refl _
         ·refine key _ lp _ rfl rfl (by simp only [if_true];rfl) ?_ (mget_laid (hyz▸hlp))
          rw [hn]
          exact mapz_map _ _ _
        ·cases h
       ·cases h
      ·cases h
    ·cases h
   ·cases h
  ·cases h
 ·cases h
theorem tch_pre {p id i:Nat} (h:i < p):tchOf [(p,[id]),(p+2,[id])] i=[]∧tchOf [(p+2,[id])] i=[]:=by
 simp only [tchOf,nbeq_ne (show ¬ i=p by omega),nbeq_ne (show ¬ i=p+2 by omega),nbeq_ne (show ¬ p=i by omega),nbeq_ne (show ¬ p+2=i by omega),and_self]
structure Cert2 (P:Program) (ops:List Oper) (B:Array Nat) (p id:Nat) (y0:Dyn) (s:TSt) (q:List RE) (e:RE) (o:Oper):Prop where
 up:e.up=[]
 one:CertI P ops B [(p+2,[id])] s.st q e o
 two:inc B q.length p=true→∀ (i n:Nat) (l lp:List (C i)) (jj st:Nat),lookH s.H id=some (.dmap i l)→kar i=n+1→Laid n y0 l lp→
  CertI P ops B [(p+2,[id])] ⟨s.nt,s.N,s.st.tm,s.st.H.upd [(id,some (.mapz (lp.map fun x=>pairK (kar i) (get i x)) jj st))]⟩ q e o
theorem evDrX_ok {E:Env} {cts:List CT} {ops:List Oper} {B:Array Nat} {p id:Nat} {t0 kt0 et0:TypeId} {yz0:Dyn} {s:TSt} {κ:TSt→Option R} {z:R} (hE:EnvOk E cts) (hst:∀ i o,ops[i]?=some o→B.getD i 0 < 2 ^ i) (ht0:E.P.underlying t0=some (.map kt0 et0)) (hz0:zvT E.P et0=some (.d yz0))
  (hin:∀ i,i < p→inc B i (p+2)=false):∀ {l:List Oper} {T:TSt} {q:List RE},
  evDrX E cts ops B p id t0 l q.length T κ=some z→Inv s ops [(p,[id]),(p+2,[id])] T q→(∀ j e,reAt q j=some e→e.up=[])→T.H=s.H→(∀ i o,l[i]?=some o→ops[q.length+i]?=some o)→q.length+l.length=p→
  ∃ rs Tf,κ Tf=some z∧Inv s ops [(p,[id]),(p+2,[id])] Tf rs∧rs.length=p∧Suf q rs∧(∀ j e,reAt rs j=some e→e.up=[])∧Tf.H=s.H∧∀ i o,l[i]?=some o→∃ e q',reAt rs (q.length+i)=some e∧q'.length=q.length+i∧Suf q' rs∧Cert2 E.P ops B p id yz0 s q' e o
 | [],T,q,h,hi,hup,hTH,hl,hp=>by
  simp only [evDrX] at h
  exact ⟨q,T,h,hi,by simpa using hp,⟨[],rfl⟩,hup,hTH,fun i o ho=>by simp at ho⟩
 | o::rest,T,q,h,hi,hup,hTH,hl,hp=>by
  simp only [evDrX] at h
  have hlt:q.length < p:=by simp at hp;omega
  have ho0:=hl 0 o (by simp)
  have nil2:∀ (D:Nat→Bool) (H0:Hp) (id':Nat),ovH D H0 q id'=H0 id':=fun D H0 id'=>ovH_nil hup
  have fin:∀ (e:RE) (T':TSt),evDrX E cts ops B p id t0 rest (q.length+1) T' κ=some z→Inv s ops [(p,[id]),(p+2,[id])] T' (e::q)→T'.H=s.H→Cert2 E.P ops B p id yz0 s q e o→
    ∃ rs Tf,κ Tf=some z∧Inv s ops [(p,[id]),(p+2,[id])] Tf rs∧rs.length=p∧Suf q rs∧(∀ j e,reAt rs j=some e→e.up=[])∧Tf.H=s.H∧∀ i o',(o::rest)[i]?=some o'→∃ e q',reAt rs (q.length+i)=some e∧q'.length=q.length+i∧Suf q' rs∧Cert2 E.P ops B p id yz0 s q' e o':=by
   intro e T' h1 h2 h4 h3
   obtain ⟨rs,Tf,k1,k2,k3,k4,k6,k9,k5⟩:=evDrX_ok hE hst ht0 hz0 hin (q:=e::q) h1 h2 (fun j e' hj=>by
    simp only [reAt] at hj
    split at hj
    ·cases hj;exact h3.up
    ·exact hup j e' hj) h4 (fun i o' ho'=>by
    have:=hl (i+1) o' (by simpa using ho')
    rwa [show (e::q).length+i=q.length+(i+1) by simp;omega]) (by simp at hp ⊢;omega)
   obtain ⟨k7,k8⟩:=suf_more k4
   refine ⟨rs,Tf,k1,k2,k3,k7,k6,k9,fun i o' ho'=>?_⟩
   cases i with
   | zero=>
    simp only [List.getElem?_cons_zero,Option.some.injEq] at ho'
    subst ho'
    exact ⟨e,q,k8,rfl,k7,h3⟩
   | succ i=>
    obtain ⟨e',q',m1,m2,m3,m4⟩:=k5 i o' (by simpa using ho')
    have e1:(e::q).length+i=q.length+(i+1):=by simp;omega
    exact ⟨e',q',e1▸m1,e1▸m2,m3,m4⟩
  split at h
  ·rename_i hdg
   simp only [Bool.and_eq_true] at hdg
   obtain ⟨hd,hg⟩:=hdg
   have hgn:o.guard=none:=by
    unfold noGd at hg
    cases e:o.guard with
    | none=>rfl
    | some _=>rw [e] at hg;cases hg
   have hw:∀ {w F O μ K ft a} {M:SSt},SR w F O μ K M ft a→Region.wanted o (yielded ⟨ops⟩ a.tmps)=true:=fun _=>by unfold Region.wanted;rw [hgn]
   split at h
   ·split at h
    ·rename_i y hy
     obtain ⟨hnd,⟨rv,k1,k2⟩,i,l,n,k3,k4,k5⟩:=lkE_ok ht0 hz0 hy
     have hi1:Inv s ops [(p+2,[id])] T q:=⟨hi.ok,hi.nt,hi.N,hi.tm,hi.H,fun j e hj=>by
      obtain ⟨o',m1,m2,_⟩:=hi.rec_ j e hj
      exact ⟨o',m1,m2,fun id' hid=>by rw [hup j e hj] at hid;cases hid⟩⟩
     have mT:=hi1.maskT (B:=B) hst
     have mH:=hi1.maskH (B:=B) hst
     refine fin ⟨o.dst,dav y,[],T.N,0⟩ _ h ?_ (by rw [put_H];exact hTH) ?_
     ·refine ⟨put_ok hi.ok (by simp only [TA.wf]),by rw [put_nt];exact hi.nt,⟨hi.N,by rw [put_N];rfl⟩,fun t=>?_,fun id'=>?_,fun j e hj=>?_⟩
      ·rw [put_tm,put_H]
       simp only [ovT,Bool.true_and]
       cases isD o.dst t with
       | true=>simp only [TA.av]
       | false=>exact hi.tm t
      ·rw [put_H]
       simp only [ovH,hasId,List.any_nil,Bool.and_false]
       exact hi.H id'
      ·simp only [reAt] at hj
       split at hj
       ·rename_i e1
        cases hj
        exact ⟨o,e1▸ho0,rfl,fun id' hid=>by cases hid⟩
       ·exact hi.rec_ j e hj
     ·have hok:(match o.dst with | some t=>t.blt s.st.nt | none=>true)=true:=by
       show okDst ⟨s.nt,s.N,s.tm,s.H⟩ o.dst=true
       cases hdd:o.dst with
       | none=>rfl
       | some t=>rw [hdd] at hd;simp only [okDst] at hd ⊢;rw [← hi.nt];exact hd
      refine ⟨rfl,⟨rfl,hok,(fun id' hid=>by cases hid),_,hi.nt,mT,mH,.inr ⟨fun hs=>hw hs,rv,[],k1,k2,fun id' hid=>(by cases hid),fun id' b' hid=>(by cases hid),hnd⟩⟩,fun hinc i' n' l' lp jj st q1 q2 q3=>?_⟩
      have hsame:lookH (T.mask ops B [(p+2,[id])] q.length).H id=lookH T.H id:=by
       rcases look_strike T.H id (hidL B q.length [(p+2,[id])]) with ⟨m1,x,_⟩ | ⟨_,m2⟩
       ·simp only [hidL,hin q.length hlt] at m1
        cases m1
       ·exact m2
      rw [hsame,hTH,q1] at k3
      cases k3
      obtain ⟨rv2,m1,m2⟩:=k5 lp jj st (by rw [k4] at q2;cases q2;exact q3)
      refine ⟨rfl,hok,(fun id' hid=>by cases hid),⟨T.nt,T.N,(T.mask ops B [(p+2,[id])] q.length).st.tm,fun id'=>if id'=id then some (.mapz (lp.map fun x=>pairK (kar i) (get i x)) jj st) else none⟩,hi.nt,mT,fun id'=>?_,.inr ⟨fun hs=>hw hs,rv2,[],m1,m2,fun id' hid=>(by cases hid),fun id' b' hid=>(by cases hid),hnd⟩⟩
      by_cases e:id'=id
      ·refine .inr ⟨by simp only [hidH,hin q.length hlt,Bool.and_false,Bool.or_false],?_⟩
       rw [nil2]
       simp only [e,if_true,Hp.upd]
      ·exact .inl (by simp only [if_neg e])
    ·cases h
   ·obtain ⟨e,T',h1,h2,h3,h4⟩:=drOne_ok hE hst hi ho0 hd hw h
    obtain ⟨t1,t2⟩:=tch_pre (id:=id) hlt
    have hup0:e.up=[]:=by
     have:=h3.tou
     rw [t1] at this
     cases hu:e.up with
     | nil=>rfl
     | cons a b=>exact absurd (this a.1 (by rw [hu];simp)) (by simp)
    obtain ⟨M,c1,c2,c3,c4⟩:=h3.run
    refine fin e T' h1 h2 ((h4 t1).trans hTH) ⟨hup0,⟨h3.d,h3.ok,(fun id' hid=>by rw [hup0] at hid;cases hid),M,c1,c2,fun id'=>?_,?_⟩,fun hinc i n l' lp jj st q1 q2 q3=>⟨h3.d,h3.ok,(fun id' hid=>by rw [hup0] at hid;cases hid),M,c1,c2,fun id'=>?_,?_⟩⟩
    ·rcases c3 id' with e1 | ⟨e1,e2⟩
     ·exact .inl e1
     ·refine .inr ⟨?_,e2⟩
      simp only [hidH,Bool.or_eq_false_iff] at e1 ⊢
      exact e1.2
    ·rcases c4 with ⟨a1,a2⟩ | ⟨a1,rv,upA,a2,a3,a4,a5,a6⟩
     ·exact .inl ⟨a1,a2⟩
     ·exact .inr ⟨a1,rv,upA,a2,a3,a4,(fun id' b' hid=>by rw [hup0] at hid;cases hid),a6⟩
    ·rcases c3 id' with e1 | ⟨e1,e2⟩
     ·exact .inl e1
     ·simp only [hidH,Bool.or_eq_false_iff] at e1
      have hne:id'≠id:=fun e=>by
       subst e
       have:=e1.1
       simp [hinc] at this
      refine .inr ⟨by simp only [hidH,Bool.or_eq_false_iff];exact e1.2,?_⟩
      rw [e2,nil2,nil2]
      simp only [Hp.upd,if_neg hne]
    ·rcases c4 with ⟨a1,a2⟩ | ⟨a1,rv,upA,a2,a3,a4,a5,a6⟩
     ·exact .inl ⟨a1,a2⟩
     ·exact .inr ⟨a1,rv,upA,a2,a3,a4,(fun id' b' hid=>by rw [hup0] at hid;cases hid),a6⟩
  ·cases h
def lpOf {α:Type} (l:List α) (y:α):Option Nat→List α
 | none=>l++[y]
 | some _=>l
theorem hidT_none {B:Array Nat} {i t:Nat}:∀ {l:List Oper} {j:Nat},(∀ q,q < l.length→inc B i (j+q)=false)→hidT B i t j l=false
 | [],_,_=>rfl
 | o::r,j,h=>by
  simp only [hidT,h 0 (by simp),Bool.and_false,Bool.false_or]
  have h0:=h 0 (by simp)
  rw [Nat.add_zero] at h0
  rw [h0,Bool.and_false,Bool.false_or]
  exact hidT_none fun q hq=>by
   have:=h (q+1) (by simp;omega)
   rwa [show j+1+q=j+(q+1) by omega]
theorem keqD_eq {x y:Dyn} (ht:y.t=x.t) (h:keqD x y=true):x=y:=by
 obtain ⟨t,a⟩:=x
 obtain ⟨u,b⟩:=y
 simp only at ht
 subst ht
 cases u with
 | int k=>
  have:a=b:=LawfulBEq.eq_of_beq (α:=Int) h
  rw [this]
 | str=>
  have:a=b:=LawfulBEq.eq_of_beq (α:=List UInt8) h
  rw [this]
 | _=>simp [keqD] at h
theorem keqL_eq:∀ {l m:List Dyn},m.map (·.t)=l.map (·.t)→keqL l m=true→l=m
 | [],[],_,_=>rfl
 | [],_::_,h,_=>by simp at h
 | _::_,[],h,_=>by simp at h
 | [x],[y],h,hk=>by
  simp only [List.map_cons,List.map_nil,List.cons.injEq,and_true] at h
  simp only [keqL] at hk
  rw [keqD_eq h hk]
 | [_],_::_::_,h,_=>by simp at h
 | x::x2::l,y::m,h,hk=>by
  simp only [List.map_cons,List.cons.injEq] at h
  cases m with
  | nil=>simp at h
  | cons y2 m=>
   simp only [keqL,Bool.and_eq_true] at hk
   rw [keqD_eq h.1 hk.1,keqL_eq (l:=x2::l) (m:=y2::m) (by simpa using h.2) hk.2]
set_option maxHeartbeats 1000000 in
theorem evDrawE_ok {E:Env} {cts:List CT} {ops:List Oper} {B:Array Nat} {id:Nat} {s:TSt} {κ:TSt→Option R} {z:R} {m0 rid:Nat} {n0:Nat×Nat} {ro:Option Nat} {a:Act} {Q:Exit→Act→World→Prop} (hE:EnvOk E cts) (hmix:E.P.follows .mixedOrders=true) (h:evDrawE E cts ops B id s κ=some z)
  (ho:s.ok) (hm:m0≤s.N) (hn:NtB n0 s a) (hs:SR w F O μ (below s.N) s.st ft a) (hk:∀ s' a' w' F' O' μ' ft',κ s'=some z→Here w F O μ m0 n0 s' a' w' F' O' μ' ft'→Q .normal a' w'):(Code.region rid ⟨ops⟩ true).wpIn (Wr ro) 0 E.P Q a w:=by
 unfold evDrawE at h
 split at h
 case h_2=>cases h
 rename_i pre o1 o2 o3 hsp
 have hops:=splitE_eq hsp
 split at h
 case h_2=>cases h
 rename_i t m k d1 d2 m3 x hent
 split at h
 case h_2=>cases h
 rename_i hchk
 simp only [Bool.and_eq_true,Bool.not_eq_true'] at hchk
 obtain ⟨⟨hst0,hb1,hb2⟩,⟨hhid,hd12⟩,hlt1,hlt2⟩:=hchk
 have hd12:=Nat.ne_of_beq_eq_false hd12
 split at h
 case h_2=>cases h
 rename_i kt et ht
 split at h
 case h_2=>cases h
 rename_i yz0 hzt
 have hthree:(o1.op=.mapEntry t m k∧o1.dst=some d1∧o1.guard=none)∧(o2.op=.extract (.tmp d1) 1∧o2.dst=some d2∧o2.guard=none)∧(∃ t',o3.op=.entryStore t' m3 (.tmp d2) x)∧o3.dst=none∧o3.guard=none:=by
  unfold entO at hent
  split at hent
  ·rename_i ho1 ho2 ho3
   split at hent
   ·rename_i e1 e2 e3
    split at hent
    ·rename_i hg
     simp only [Bool.and_eq_true] at hg
     obtain ⟨g1,g2,g3,g4,g5⟩:=hg
     have g4:=Nat.eq_of_beq_eq_true g4
     have g5:=Nat.eq_of_beq_eq_true g5
     subst g4 g5
     simp only [Option.some.injEq,Prod.mk.injEq] at hent
     obtain ⟨rfl,rfl,rfl,rfl,rfl,rfl,rfl⟩:=hent
     have gd:∀ o:Oper,noGd o=true→o.guard=none:=fun o ho=>by
      unfold noGd at ho
      cases e:o.guard with
      | none=>rfl
      | some _=>rw [e] at ho;cases ho
     exact ⟨⟨ho1,e1,gd _ g1⟩,⟨ho2,e2,gd _ g2⟩,⟨_,ho3⟩,e3,gd _ g3⟩
    ·cases hent
   ·cases hent
  ·cases hent
 clear hent
 obtain ⟨⟨ho1,hdst1,hg1⟩,⟨ho2,hdst2,hg2⟩,⟨t',ho3⟩,hdst3,hg3⟩:=hthree
 generalize hp:pre.length=p at *
 have hlen:ops.length=p+3:=by rw [hops];simp [hp]
 have hst1:=hst0
 simp only [statOk,Bool.and_eq_true] at hst1
 have hB:∀ i o,ops[i]?=some o→B.getD i 0 < 2 ^ i:=fun i o hio=>by
  have:=(go1_spec hst1.1 i o hio).2.1
  rwa [Nat.zero_add] at this
 have at1:ops[p]?=some o1:=by rw [hops,List.getElem?_append_right (by omega),hp];simp
 have at2:ops[p+1]?=some o2:=by rw [hops,List.getElem?_append_right (by omega),hp];simp
 have at3:ops[p+2]?=some o3:=by rw [hops,List.getElem?_append_right (by omega),hp];simp
 have hall:∀ j,j < p+2→bit B (p+2) j=true:=allB_ok hb2
 have ninc:∀ j,j < p+3→inc B (p+2) j=false:=fun j hj=>by
  simp only [inc,Bool.and_eq_false_iff,Bool.not_eq_false']
  by_cases e:j=p+2
  ·exact .inl (.inl (by rw [e];exact Nat.beq_refl _))
  ·exact .inl (.inr (hall j (by omega)))
 have ninc':∀ i,i < p→inc B i (p+2)=false:=fun i hi=>by
  simp only [inc,Bool.and_eq_false_iff,Bool.not_eq_false']
  exact .inr (hall i (by omega))
 have inv0:Inv s ops [(p,[id]),(p+2,[id])] s []:=⟨ho,rfl,rfl,fun t=>rfl,fun id=>rfl,fun j e hj=>by cases hj⟩
 obtain ⟨q,T,hκ,hInv,hql,_,hup,hTH,hcert⟩:=evDrX_ok hE hB ht hzt ninc' (q:=[]) h inv0 (fun j e hj=>by cases hj) rfl (fun i o hio=>by
  simp only [List.length_nil,Nat.zero_add]
  rw [hops,List.getElem?_append_left (List.getElem?_eq_some_iff.1 hio).1]
  exact hio) (by simpa using hp)
 simp only [List.length_nil,Nat.zero_add] at hcert
 unfold entE at hκ
 split at hκ
 case h_2=>cases hκ
 rename_i id' cs kt' et' hvm hvk ht2
 rw [ht] at ht2
 cases ht2
 split at hκ
 case h_2=>cases hκ
 rename_i yz1 j kk hid hz1 hkg
 have hid:=Nat.eq_of_beq_eq_true hid
 subst hid
 rw [hzt] at hz1
 cases hz1
 split at hκ
 case h_2=>cases hκ
 rename_i i l id'' hks hl hvm3
 split at hκ
 case h_2=>cases hκ
 rename_i n hid2 hkn
 have hid2:=Nat.eq_of_beq_eq_true hid2
 subst hid2
 split at hκ
 case h_2=>cases hκ
 rename_i hts v _ hdr
 split at hκ
 case h_2=>cases hκ
 rename_i yz y0 hlz hlx
 split at hκ
 case h_2=>cases hκ
 rename_i yzz0 yf0 hbz hby
 obtain ⟨yzz,hyc⟩:∃ yc:C i,yc=yzz0:=⟨yzz0,rfl⟩
 subst hyc
 obtain ⟨y,hyc⟩:∃ yc:C i,yc=yf0:=⟨yf0,rfl⟩
 subst hyc
 have hyz:yz=yz0:=by
  simp only [leafD] at hlz
  split at hlz
  ·split at hlz
   ·exact (Option.some.inj hlz).symm
   ·cases hlz
  ·cases hlz
 subst hyz
 obtain ⟨fs,hkt,_,_⟩:=keyS_fs hks
 have hkd:=keyS_ok hks kk
 have hza:zvA E.P et=some (dav yz):=by
  have:=(zvT_ok hzt T.H T.N).1
  simpa only [TA.av] using this
 obtain ⟨_,hlzl,_⟩:=leafD_some hlz
 obtain ⟨_,hlxl,hlxi⟩:=leafD_some hlx
 have hjl:(get j kk).length=n+1:=by
  have h1:=congrArg List.length (get_ts j kk)
  have h2:=congrArg List.length hts
  have h3:=congrArg List.length (get_ts i y)
  have h4:=congrArg List.length (show get i y=get j kk++[y0] from bld_some hby)
  simp at h1 h2 h3 h4
  omega
 have pk:∀ (yy:C i) (q0:Dyn),get i yy=get j kk++[q0]→pairK (n+1) (get i yy)=(dav ⟨.st j,kk⟩,dav q0):=fun yy q0 e=>by
  rw [e,dav_st]
  simp only [pairK,← hjl,List.take_left,List.drop_left]
 have hpz:=pk yzz yz (bld_some hbz)
 have hpy:=pk y y0 (bld_some hby)
 obtain ⟨lA,hlA⟩:∃ lA,lA=l.map fun x=>pairK (n+1) (get i x):=⟨_,rfl⟩
 obtain ⟨r,hr⟩:∃ r,r=l.findIdx? (keyPS i j (n+1) kk):=⟨_,rfl⟩
 have hf:findAV (dav ⟨.st j,kk⟩) lA 0=some r:=by
  have:=find_smap hts hks kk l 0
  rw [← hlA,← hr] at this
  rw [this];cases r<;>simp
 have hka:∀ jj,r=some jj→(lA.getD jj (.top,.top)).1=dav ⟨.st j,kk⟩∧jj < l.length:=fun jj e=>by
  rw [hr] at e
  obtain ⟨h1,h2,_⟩:=List.findIdx?_eq_some_iff_getElem.1 e
  refine ⟨?_,h1⟩
  have h3:=keqL_eq (by rw [take_ts hts,get_ts]) h2
  rw [hlA]
  have e2:((l.map fun x=>pairK (n+1) (get i x)).getD jj (.top,.top)).1=.agg (((get i l[jj]).take (n+1)).map dav):=by
   simp [List.getD,h1,pairK]
  rw [e2,dav_st,h3]
 obtain ⟨lp,hlp⟩:∃ lp:List (C i),lp=lpOf l yzz r:=⟨_,rfl⟩
 have hlaid:Laid n yz l lp:=by
  rw [hlp]
  cases r with
  | some _=>exact .inl rfl
  | none=>
   refine .inr ⟨yzz,rfl,?_⟩
   rw [show get i yzz=get j kk++[yz] from bld_some hbz,← hjl,List.drop_left]
 have hent:entA lA (dav ⟨.st j,kk⟩) (dav yz) r=lp.map fun x=>pairK (n+1) (get i x):=by
  rw [hlp,hlA]
  cases r<;>simp [entA,lpOf,hpz]
 have hfin:(entA lA (dav ⟨.st j,kk⟩) (dav yz) r).set (entJ lA r) (((entA lA (dav ⟨.st j,kk⟩) (dav yz) r).getD (entJ lA r) (.top,.top)).1,dav y0)=(mput (keyPS i j (n+1) kk) l y).map fun x=>pairK (n+1) (get i x):=by
  rw [mput_mapS hpy,← hr,← hlA]
  cases r with
  | none=>simp [entA,entJ,putA,List.getD]
  | some jj=>simp only [entA,entJ,putA,(hka jj rfl).1]
 obtain ⟨lfin,hlfin⟩:∃ lf,lf=(mput (keyPS i j (n+1) kk) l y).map fun x=>pairK (n+1) (get i x):=⟨_,rfl⟩
 rw [← hlfin] at hfin
 have hsH:s.st.H id''=some (.map lA):=by
  have h9:s.st.H id''=some (.map (l.map fun x=>pairK (kar i) (get i x))):=st_at (by rw [← hTH];exact hl)
  rw [h9,hkn,hlA]
 have nil2:∀ (D:Nat→Bool) (H0:Hp) (id':Nat),ovH D H0 q id'=H0 id':=fun D H0 id'=>ovH_nil hup
 have hInv1:Inv s ops [(p+2,[id''])] T q:=⟨hInv.ok,hInv.nt,hInv.N,hInv.tm,hInv.H,fun j e hj=>by
  obtain ⟨o',m1,m2,_⟩:=hInv.rec_ j e hj
  exact ⟨o',m1,m2,fun id' hid=>by rw [hup j e hj] at hid;cases hid⟩⟩
 let r12:RE:=⟨none,.lit undef,[(id'',some (.map lfin))],T.N,0⟩
 let rs:AV→AV→List RE:=fun v1 v2=>r12::⟨some d2,v2,[],T.N,0⟩::⟨some d1,v1,[],T.N,0⟩::q
 have rlen:∀ v1 v2,(rs v1 v2).length=p+3:=fun v1 v2=>by simp [rs,hql]
 have wfr:∀ v1 v2,wfN s.N (rs v1 v2) T.N:=fun v1 v2=>⟨⟨⟨hInv.N,rfl⟩,rfl⟩,rfl⟩
 have rat0:∀ v1 v2 i',i' < p→reAt (rs v1 v2) i'=reAt q i':=fun v1 v2 i' hi=>by
  simp only [rs]
  rw [reAt_cons (by simp;omega),reAt_cons (by simp;omega),reAt_cons (by omega)]
 have rat1:∀ v1 v2,reAt (rs v1 v2) p=some ⟨some d1,v1,[],T.N,0⟩:=fun v1 v2=>by
  simp only [rs]
  rw [reAt_cons (by simp;omega),reAt_cons (by simp;omega)]
  simp [reAt,hql]
 have rat2:∀ v1 v2,reAt (rs v1 v2) (p+1)=some ⟨some d2,v2,[],T.N,0⟩:=fun v1 v2=>by
  simp only [rs]
  rw [reAt_cons (by simp;omega)]
  simp [reAt,hql]
 have rat3:∀ v1 v2,reAt (rs v1 v2) (p+2)=some r12:=fun v1 v2=>by
  simp [rs,reAt,hql]
 have ovh3:∀ v1 v2 (D:Nat→Bool) (H0:Hp) id',D (p+2)=false→ovH D H0 (rs v1 v2) id'=H0 id':=fun v1 v2 D H0 id' hD=>by
  simp only [rs,ovH,List.length_cons,hql,hD,Bool.false_and,hasId,List.any_nil,Bool.and_false]
  exact nil2 _ _ _
 have suf0:∀ v1 v2 q',Suf q' q→Suf q' (rs v1 v2):=fun v1 v2 q' ⟨u,e⟩=>⟨r12::⟨some d2,v2,[],T.N,0⟩::⟨some d1,v1,[],T.N,0⟩::u,by simp only [rs,e,List.cons_append]⟩
 have tchp:∀ j',tchOf [(p+2,[id''])] j'=if j'=p+2 then [id''] else []:=fun j'=>by
  simp only [tchOf]
  by_cases e:j'=p+2
  ·subst e;simp
  ·rw [if_neg e]
   first
    | rw [nbeq_ne e]
    | rw [nbeq_ne (fun h=>e h.symm)]
 have wtd:∀ {o:Oper} {a':Act},o.guard=none→Region.wanted o (yielded ⟨ops⟩ a'.tmps)=true:=fun hg=>by unfold Region.wanted;rw [hg]
 let Tf:TSt:=⟨T.nt,T.N,(d1,.top)::(d2,.top)::T.tm,updH T.H [(id'',some (.dmap i (mput (keyPS i j (n+1) kk) l y)))]⟩
 have hκ:κ Tf=some z:=hκ
 have hsub:Sub T.H Tf.H T.N:=sub_map hl rfl rfl
 have hTfok:Tf.ok:=by
  refine ⟨fun t=>?_,fun id l' hl'=>?_⟩
  ·show (look ((d1,.top)::(d2,.top)::T.tm) t).wf Tf.H T.N
   simp only [look]
   cases Nat.beq t d1 with
   | true=>simp only [TA.wf]
   | false=>
    cases Nat.beq t d2 with
    | true=>simp only [TA.wf]
    | false=>exact (av_sub hsub (Nat.le_refl _) _ (hInv.ok.tm t)).2
  ·have hl':lookH (updH T.H [(id'',some (.dmap i (mput (keyPS i j (n+1) kk) l y)))]) id=some l':=hl'
   rw [updH_one] at hl'
   split at hl'
   ·cases hl';simp only [TBlk.refs,wfL]
   ·exact (avL_sub hsub (Nat.le_refl _) _ (hInv.ok.H id l' hl')).2
 have hsN:s.N≤T.N:=by
  have key:∀ {q:List RE} {N:Nat},wfN s.N q N→s.N≤N:=by
   intro q
   induction q with
   | nil=>intro N h;exact Nat.le_of_eq h.symm
   | cons x q ih=>intro N h;have:=ih h.1;have:=h.2;omega
  exact key hInv.N
 have hend:∀ v1 v2 (H0:Hp),(∀ id',id'≠id''→H0 id'=s.st.H id')→∀ w' F' O' μ' ft' a',a'.defers=a.defers→SR w' F' O' μ' (below T.N) ⟨s.nt,T.N,ovT (fun _=>true) s.st.tm (rs v1 v2),ovH (fun _=>true) H0 (rs v1 v2)⟩ ft' a'→Fr w F O μ (below m0) w' F' O' μ'→Q .normal a' w':=by
  intro v1 v2 H0 hH0 w' F' O' μ' ft' a' hds hsr hfr
  refine hk Tf a' w' F' O' μ' ft' hκ ⟨hTfok,Nat.le_trans hm hsN,⟨hInv.nt.trans hn.1,by rw [hds];exact hn.2⟩,⟨?_,?_,fun t=>?_,hsr.df⟩,hfr⟩
  ·have e:(ovH (fun _=>true) H0 (rs v1 v2))=hpT Tf.H:=by
    funext id
    simp only [rs,ovH,Bool.true_and,hasId,List.any_cons,List.any_nil,Bool.or_false,r12]
    by_cases e:id=id''
    ·subst e
     simp only [Nat.beq_refl,Hp.upd,if_true]
     rw [hpT_of (H:=Tf.H) (show lookH Tf.H id=some (.dmap i (mput (keyPS i j (n+1) kk) l y)) by simp only [Tf];rw [updH_one,if_pos rfl]) rfl]
     simp only [TBlk.blk,hkn,hlfin]
    ·rw [nbeq_ne (fun h=>e h.symm)]
     simp only
     rw [nil2,hH0 id e]
     have e1:lookH Tf.H id=lookH T.H id:=by simp only [Tf];rw [updH_one,if_neg e]
     show hpT s.H id=hpT Tf.H id
     rw [← hTH]
     unfold hpT
     rw [e1]
     cases hb:lookH T.H id with
     | none=>rfl
     | some b=>
      simp only [Option.bind_some]
      cases hv:b.vis with
      | false=>rfl
      | true=>
       simp only
       rw [blk_sub hsub (hInv.ok.H id _ hb)]
   have:=hsr.hr
   simp only [e] at this
   exact this
  ·exact hsr.nt.trans hInv.nt.symm
  ·have:=hsr.tm t
   simp only [rs,ovT,Bool.true_and,r12,isD] at this
   show VR w' F' μ' _ ((look ((d1,.top)::(d2,.top)::T.tm) t).av Tf.H) _
   simp only [look]
   cases e1:Nat.beq t d1 with
   | true=>simp only [TA.av];exact .top _
   | false=>
    cases e2:Nat.beq t d2 with
    | true=>simp only [TA.av];exact .top _
    | false=>
     rw [nbeq_ne (fun h=>Nat.ne_of_beq_eq_false e2 h.symm),nbeq_ne (fun h=>Nat.ne_of_beq_eq_false e1 h.symm)] at this
     simp only at this
     rw [← hInv.tm t] at this
     simp only
     rw [(av_sub hsub (Nat.le_refl _) _ (hInv.ok.tm t)).1]
     exact this
 have trivX:∀ (s':SSt) (q':List RE) (e:RE) (o:Oper) (Z:SSt→Prop),s'.nt=s.nt→e.d=o.dst→(∀ id',id'∈e.up.map (·.1)→id'∈tchOf [(p+2,[id''])] q'.length)→Z ⟨s.nt,0,fun _=>.top,fun _=>none⟩→CertX ops B [(p+2,[id''])] s' q' e o Z:=fun s' q' e o Z h0 h1 h2 h3=>
  ⟨h1,h2,⟨s.nt,0,fun _=>.top,fun _=>none⟩,h0.symm,fun _=>.inl rfl,fun _=>.inl rfl,h3⟩
 let X1:Nat→Bool:=fun i'=>Nat.beq i' p||(Nat.beq i' (p+1)||Nat.beq i' (p+2))
 let Φ1:(Nat→Bool)→Prop:=fun D=>D p=false∧D (p+1)=false∧D (p+2)=false
 have at0:∀ i' o,ops[i']?=some o→i' < p∧pre[i']?=some o∨i'=p∧o=o1∨i'=p+1∧o=o2∨i'=p+2∧o=o3:=fun i' o hio=>by
  have hlt:i' < ops.length:=(List.getElem?_eq_some_iff.1 hio).1
  rcases Nat.lt_or_ge i' p with e | e
  ·rw [hops,List.getElem?_append_left (by omega)] at hio
   exact .inl ⟨e,hio⟩
  ·rcases (show i'=p∨i'=p+1∨i'=p+2 by omega) with e | e | e
   ·subst e;rw [at1] at hio;exact .inr (.inl ⟨rfl,(Option.some.inj hio).symm⟩)
   ·subst e;rw [at2] at hio;exact .inr (.inr (.inl ⟨rfl,(Option.some.inj hio).symm⟩))
   ·subst e;rw [at3] at hio;exact .inr (.inr (.inr ⟨rfl,(Option.some.inj hio).symm⟩))
 have emp:lst (Array.replicate ops.length false)=fun _=>false:=by
  funext j
  simp only [lst]
  by_cases h:j < ops.length<;>simp [h]
 have eT:∀ q:List RE,ovT (fun _=>false) s.st.tm q=s.st.tm:=fun q=>by
  induction q with
  | nil=>rfl
  | cons x q ih=>funext t;exact congrFun ih t
 have eH:∀ q:List RE,ovH (fun _=>false) s.st.H q=s.st.H:=fun q=>by
  induction q with
  | nil=>rfl
  | cons x q ih=>funext t;exact congrFun ih t
 have eK:∀ q:List RE,kD (fun _=>false) s.N q=below s.N:=fun q=>by
  induction q with
  | nil=>rfl
  | cons x q ih=>funext t;simp [kD,ih]
 refine wpIn_region_any hmix ?_
 refine draw_any (s:=s.st) (rs:=rs .top .top) (N:=T.N) (m0:=m0) (X:=X1) (Φ:=Φ1) (Z:=fun i' M=>i'=p→M=(T.mask ops B [(p+2,[id''])] p).st) (w0:=w) (F0:=F) (O0:=O) (μ0:=μ) (ds0:=a.defers) (ro:=ro) hst0 (wfr _ _) hm (by rw [rlen,hlen]) ?_ ?_ ?_ ?_ _ _ _ _ F O μ ft (by simp) (by
   unfold unl
   simp [List.countP_replicate]) (by
   rw [show (⟨ops⟩:Array Oper).size=ops.length from rfl,emp];intro i hi;cases hi) ?_ (Fr.drew _) rfl (by
   rw [show (⟨ops⟩:Array Oper).size=ops.length from rfl,emp];exact ⟨rfl,rfl,rfl⟩)
 ·rintro D i' ⟨h1,h2,h3⟩ hX
  simp only [X1,Bool.or_eq_false_iff] at hX
  have e1:=Nat.ne_of_beq_eq_false hX.1
  have e2:=Nat.ne_of_beq_eq_false hX.2.1
  have e3:=Nat.ne_of_beq_eq_false hX.2.2
  simp only [Φ1,more]
  rw [if_neg (fun h=>e1 h.symm),if_neg (fun h=>e2 h.symm),if_neg (fun h=>e3 h.symm)]
  exact ⟨h1,h2,h3⟩
 ·intro i' o hio
  rcases at0 i' o hio with ⟨e,hpre⟩ | ⟨rfl,rfl⟩ | ⟨rfl,rfl⟩ | ⟨rfl,rfl⟩
  ·obtain ⟨e',q',m1,m2,m3,m4⟩:=hcert i' o hpre
   exact ⟨e',q',by rw [rat0 _ _ _ e];exact m1,m2,suf0 _ _ _ m3,.inl ⟨by simp only [X1];rw [nbeq_ne (by omega),nbeq_ne (by omega),nbeq_ne (by omega)];rfl,m4.one⟩⟩
  ·refine ⟨_,q,rat1 _ _,hql,suf0 _ _ _ ⟨[],rfl⟩,.inr ⟨by simp [X1],hdst1.symm,(fun id' hid=>by cases hid),_,hInv.nt,?_,?_,fun _=>rfl⟩⟩
   ·have:=hInv1.maskT (B:=B) hB
    rw [hql] at this
    rw [hql]
    exact this
   ·have:=hInv1.maskH (B:=B) hB
    rw [hql] at this
    rw [hql]
    exact this
  ·exact ⟨_,⟨some d1,.top,[],T.N,0⟩::q,rat2 _ _,by simp [hql],⟨[r12,⟨some d2,.top,[],T.N,0⟩],rfl⟩,.inr ⟨by simp [X1],trivX _ _ _ _ _ rfl hdst2.symm (fun id' hid=>by cases hid) fun h=>by omega⟩⟩
  ·refine ⟨_,⟨some d2,.top,[],T.N,0⟩::⟨some d1,.top,[],T.N,0⟩::q,rat3 _ _,by simp [hql],⟨[r12],rfl⟩,.inr ⟨by simp [X1],trivX _ _ _ _ _ rfl hdst3.symm (fun id' hid=>?_) fun h=>by omega⟩⟩
   simp only [r12,List.map_cons,List.map_nil,List.mem_singleton] at hid
   rw [tchp,if_pos (by simp [hql]),hid]
   simp
 ·
  intro i' o M hio hX hZ fuel listed a1 w1 F1 O1 μ1 ft1 hsz hun hcl hDi hBi hΦ hless hsr hfr hds
  rcases at0 i' o hio with ⟨e,_⟩ | ⟨rfl,rfl⟩ | ⟨rfl,rfl⟩ | ⟨rfl,rfl⟩
  ·simp only [X1] at hX
   rw [nbeq_ne (by omega),nbeq_ne (by omega),nbeq_ne (by omega)] at hX
   cases hX
  ·have hZ:=hZ rfl
   subst hZ
   unfold wpOpIn
   have hio':(⟨ops⟩:Array Oper)[i']?=some o:=by simpa using hio
   rw [hio']
   simp only [wtd hg1,if_true]
   refine op_in (fun c hc=>by rw [ho1] at hc;cases hc) ?_
   have hxm:Opd (T.mask ops B [(i'+2,[id''])] i').st m (.mp id''):=fun {w F O μ K ft act} hs=>by have:=opd_at hvm hs;simpa only [TA.av] using this
   have hxk:Opd (T.mask ops B [(i'+2,[id''])] i').st k (dav ⟨.st j,kk⟩):=fun {w F O μ K ft act} hs=>keyG_ok hkg _ (hvk▸opd_val _ k hs)
   have hJH:(Js s.st (rs .top .top) (lst listed)).H id''=some (.map lA):=by
    show ovH (lst listed) s.st.H (rs .top .top) id''=_
    rw [ovh3 _ _ _ _ _ hΦ.2.2,hsH]
   obtain ⟨v0,st,w2,O2,ft2,hrun,hhr,hfr2⟩:=entry_run ho1 (hxm.more hless) hJH (hxk.more hless) hza (dav_clo hlzl) hkd.2.1 ht hkt hkd.1 hf (fun jj e=>(hka jj e).1) hsr
   unfold Oper.wp
   rw [hrun,Oper.upon_value,hdst1]
   let s2:SSt:=⟨s.nt,s.N,s.st.tm,s.st.H.upd [(id'',some (.mapz (lp.map fun x=>pairK (kar i) (get i x)) (entJ lA r) st))]⟩
   let v1:AV:=.tup [.top,.int .i64 (st:Nat)]
   let v2:AV:=.int .i64 (st:Nat)
   have hil:i' < listed.size:=by rw [hsz,hlen];omega
   have hD':lst (listed.setIfInBounds i' true)=more (lst listed) i':=lst_more hil
   have hDo:∀ q',q'≠i'→lst (listed.setIfInBounds i' true) q'=lst listed q':=fun q' hq=>by rw [hD'];simp only [more,if_neg hq]
   have hDi':lst (listed.setIfInBounds i' true) i'=true:=by rw [hD'];simp [more]
   have hs2id:s2.H id''=some (.mapz (lp.map fun x=>pairK (kar i) (get i x)) (entJ lA r) st):=by simp [s2,Hp.upd]
   have hs2o:∀ q',q'≠id''→s2.H q'=s.st.H q':=fun q' hq=>by simp only [s2,Hp.upd,if_neg hq]
   have hd1nt:d1 < a1.tmps.size:=by rw [hsr.nt];exact Nat.le_of_ble_eq_true hlt1
   have eKK:kD (lst (listed.setIfInBounds i' true)) s2.N (rs v1 v2)=kD (lst listed) s.N (rs .top .top):=by
    funext id
    rw [hD']
    refine propext ((kD_more (rat1 v1 v2) id).trans ⟨fun h=>?_,fun h=>.inl h⟩)
    rcases h with h | ⟨h1,h2⟩
    ·exact h
    ·simp only at h1 h2;omega
   refine draw_any (s:=s2) (rs:=rs v1 v2) (N:=T.N) (m0:=m0) (X:=fun q'=>bit B i' q'||Nat.beq q' i') (Φ:=fun D=>∀ q',lst (listed.setIfInBounds i' true) q'=true→D q'=true) (Z:=fun _ _=>True) (w0:=w) (F0:=F) (O0:=O) (μ0:=μ) (ds0:=a.defers) (ro:=ro)
    hst0 (wfr _ _) hm (by rw [rlen,hlen]) ?_ ?_ ?_ ?_ fuel _ _ w2 F1 O2 μ1 ft2 (by simp [hsz]) (by have:=unl_set hil hDi;omega) ?_ ?_ (hfr.trans (hfr2.pin fun id (hid:id < m0)=>kD_low (show id < s.N by omega))) hds (fun _ h=>h)
   ·intro D q' hD _ q2 hq2
    simp only [more]
    split
    ·rfl
    ·exact hD q2 hq2
   ·intro q' o' hio2
    rcases at0 q' o' hio2 with ⟨e,hpre⟩ | ⟨rfl,rfl⟩ | ⟨rfl,rfl⟩ | ⟨rfl,rfl⟩
    ·obtain ⟨e',q2,m1,m2,m3,m4⟩:=hcert q' o' hpre
     refine ⟨e',q2,by rw [rat0 _ _ _ e];exact m1,m2,suf0 _ _ _ m3,?_⟩
     cases hb:bit B i' q' with
     | true=>exact .inr ⟨by simp,trivX _ _ _ _ _ rfl m4.one.d (fun id' hid=>by rw [m4.up] at hid;cases hid) trivial⟩
     | false=>
      refine .inl ⟨by simp only [Bool.false_or];exact nbeq_ne (by omega),?_⟩
      have hlp':Laid n yz l lp:=hlaid
      refine m4.two ?_ i n l lp (entJ lA r) st (by rw [← hTH];exact hl) hkn hlp'
      rw [m2]
      simp only [inc,nbeq_ne (show ¬ q'=i' by omega),hb,Bool.not_false,Bool.true_and,Bool.and_true]
      cases hb2:bit B q' i' with
      | false=>rfl
      | true=>have:=bit_lt (hB q' o' hio2) hb2;omega
    ·exact ⟨_,q,rat1 _ _,hql,suf0 _ _ _ ⟨[],rfl⟩,.inr ⟨by simp,trivX _ _ _ _ _ rfl hdst1.symm (fun id' hid=>by cases hid) trivial⟩⟩
    ·refine ⟨_,⟨some d1,v1,[],T.N,0⟩::q,rat2 _ _,by simp [hql],⟨[r12,⟨some d2,v2,[],T.N,0⟩],rfl⟩,.inl ⟨?_,hdst2.symm,?_,(fun id' hid=>by cases hid),⟨s.nt,0,fun t=>if t=d1 then v1 else .top,fun _=>none⟩,rfl,fun t=>?_,fun _=>.inl rfl,.inr ⟨fun _=>wtd hg2,v2,[],?_,Imp.refl _,(fun id' hid=>by cases hid),(fun id' b' hid=>by cases hid),(fun c hc=>by rw [ho2] at hc;cases hc)⟩⟩⟩
     ·simp only [Bool.or_eq_false_iff]
      refine ⟨?_,nbeq_ne (by omega)⟩
      cases hb:bit B i' (i'+1) with
      | false=>rfl
      | true=>have:=bit_lt (hB i' _ at1) hb;omega
     ·rw [hdst2];exact hlt2
     ·by_cases e:t=d1
      ·refine .inr ⟨?_,?_⟩
       ·rw [e];simp only [List.length_cons,hql];exact hhid
       ·simp only [e,if_true,ovT,List.length_cons,hql,hb1,isD,Nat.beq_refl,Bool.and_self]
      ·exact .inl (by simp only [if_neg e])
     ·have hop:=op_extract (P:=E.P) (s:=⟨s.nt,0,fun t=>if t=d1 then v1 else .top,fun _=>none⟩) (cs:=[.top,.int .i64 (st:Nat)]) ho2 (fun {w F O μ K ft act} hs=>by
       have:=hs.tm d1
       simp only [if_true] at this
       exact this) (by simp)
      exact hop
    ·let M2:SSt:=⟨s.nt,0,fun t=>if t=d2 then v2 else if t=d1 then .top else (look T.tm t).av T.H,fun id'=>if id'=id'' then some (.mapz (lp.map fun x=>pairK (kar i) (get i x)) (entJ lA r) st) else none⟩
     have hv2:∀ (xx:Operand),Opd M2 xx ((TSt.val ⟨T.nt,T.N,(d1,.top)::(d2,.top)::T.tm,T.H⟩ xx).av T.H):=by
      intro xx w F O μ K ft act hs
      cases xx with
      | tmp q2=>
       have:=hs.tm q2
       simp only [TSt.val,look]
       cases e1:Nat.beq q2 d1 with
       | true=>simp only [TA.av];exact .top _
       | false=>
        cases e2:Nat.beq q2 d2 with
        | true=>simp only [TA.av];exact .top _
        | false=>
         simp only [M2,if_neg (Nat.ne_of_beq_eq_false e1),if_neg (Nat.ne_of_beq_eq_false e2)] at this
         exact this
      | const u=>simp only [TSt.val,cst_av];exact ofV_ok u
      | func f=>simp only [TSt.val,TA.av,avL];exact .fn _ [] [] [] [] rfl rfl (fun i h=>by cases h) (fun i h=>by cases h)
      | global g=>simp only [TSt.val,TA.av];exact .top _
     have hop:=op_entryStore (P:=E.P) (s:=M2) (va:=dav y0) ho3 (id:=id'') (j:=entJ lA r) (st:=st) (l:=lp.map fun x=>pairK (kar i) (get i x))
      (fun {w F O μ K ft act} hs=>by have:=hv2 m3 hs;rw [hvm3] at this;simpa only [TA.av] using this) (by simp only [M2,if_true]) (fun {w F O μ K ft act} hs=>by
       have:=hs.tm d2
       simp only [M2,if_true] at this
       exact this) (fun {w F O μ K ft act} hs=>hlxi T.H (hv2 x hs)) (dav_clo hlxl)
     have hset:(lp.map fun x=>pairK (kar i) (get i x)).set (entJ lA r) (((lp.map fun x=>pairK (kar i) (get i x)).getD (entJ lA r) (.top,.top)).1,dav y0)=lfin:=by
      rw [hkn]
      show (lp.map fun x=>pairK (n+1) (get i x)).set (entJ lA r) (((lp.map fun x=>pairK (n+1) (get i x)).getD (entJ lA r) (.top,.top)).1,dav y0)=lfin
      rw [← hent];exact hfin
     rw [hset] at hop
     refine ⟨_,⟨some d2,v2,[],T.N,0⟩::⟨some d1,v1,[],T.N,0⟩::q,rat3 _ _,by simp [hql],⟨[r12],rfl⟩,.inl ⟨?_,hdst3.symm,by rw [hdst3],fun id' hid=>?_,M2,rfl,fun t=>?_,fun id'=>?_,.inr ⟨fun _=>wtd hg3,_,_,hop,Imp.refl _,(fun id' hid=>hid),fun id' b' hid hb'=>?_,(fun c hc=>by rw [ho3] at hc;cases hc)⟩⟩⟩
     ·simp only [Bool.or_eq_false_iff]
      refine ⟨?_,nbeq_ne (by omega)⟩
      cases hb:bit B i' (i'+2) with
      | false=>rfl
      | true=>have:=bit_lt (hB i' _ at1) hb;omega
     ·simp only [r12,List.map_cons,List.map_nil,List.mem_singleton] at hid
      rw [tchp,if_pos (by simp [hql]),hid]
      simp
     ·have hh:hidT B (i'+2) t 0 ops=false:=hidT_none fun q2 hq2=>by rw [Nat.zero_add];exact ninc q2 (by omega)
      have hlen2:((⟨some d2,v2,[],T.N,0⟩:RE)::⟨some d1,v1,[],T.N,0⟩::q).length=i'+2:=by simp [hql]
      rw [hlen2]
      by_cases e2:t=d2
      ·refine .inr ⟨hh,?_⟩
       simp only [M2,e2,if_true,ovT,List.length_cons,hql,hall (i'+1) (by omega),isD,Nat.beq_refl,Bool.and_self]
      ·by_cases e1:t=d1
       ·exact .inl (by simp only [M2,if_neg e2,if_pos e1])
       ·refine .inr ⟨hh,?_⟩
        simp only [M2,if_neg e2,if_neg e1,ovT,isD,nbeq_ne (fun h=>e2 h.symm),nbeq_ne (fun h=>e1 h.symm),Bool.and_false]
        rw [hInv.tm t]
        refine ovT_congr fun j2 e' hj2 _=>?_
        rw [hall j2 (by have:=reAt_lt hj2;omega)]
     ·by_cases e:id'=id''
      ·refine .inr ⟨?_,?_⟩
       ·have hlen2:((⟨some d2,v2,[],T.N,0⟩:RE)::⟨some d1,v1,[],T.N,0⟩::q).length=i'+2:=by simp [hql]
        rw [hlen2]
        simp only [hidH,ninc (i'+2) (by omega),Bool.and_false,Bool.or_false]
       ·simp only [M2,if_pos e,ovH,hasId,List.any_nil,Bool.and_false]
        rw [nil2,e,hs2id]
      ·exact .inl (by simp only [M2,if_neg e])
     ·simp only [r12,List.map_cons,List.map_nil,List.mem_singleton] at hid
      subst hid
      simp only [r12,Hp.upd,if_true,Option.some.injEq] at hb'
      exact ⟨.map lfin,by simp only [Hp.upd,if_true],by rw [hb'];exact BImp.refl _⟩
   ·intro q' o' M' hio2 hX2 _ fuel2 listed2 a2 w3 F3 O3 μ3 ft3 _ _ _ hDi2 hBi2 hΦ2
    exfalso
    simp only [Bool.or_eq_true] at hX2
    rcases hX2 with hX2 | hX2
    ·have h1:=hBi q' hX2
     have h2:=hΦ2 q' (by rw [hD'];simp only [more];split<;>first | rfl | exact h1)
     rw [hDi2] at h2;cases h2
    ·have e:=Nat.eq_of_beq_eq_true hX2
     have h2:=hΦ2 q' (by rw [e];exact hDi')
     rw [hDi2] at h2;cases h2
   ·intro w' F' O' μ' ft' a' _ hds' hsr' hfr'
    exact hend v1 v2 s2.H hs2o w' F' O' μ' ft' a' hds' hsr' hfr'
   ·rw [hD']
    intro q1 hq1 q2 hb
    simp only [more] at hq1 ⊢
    split
    ·rfl
    ·split at hq1
     ·rename_i e;subst e;exact hBi q2 hb
     ·exact hcl q1 hq1 q2 hb
   ·have hD2:lst (listed.setIfInBounds i' true) (i'+2)=false:=by rw [hDo _ (by omega)];exact hΦ.2.2
    have hD1:lst (listed.setIfInBounds i' true) (i'+1)=false:=by rw [hDo _ (by omega)];exact hΦ.2.1
    rw [eKK]
    refine ⟨?_,?_,fun t=>?_,(hsr.df.step hfr2:DfOk w2 F1 O2 a1.defers)⟩
    ·have e:(Js s.st (rs .top .top) (lst listed)).H.upd [(id'',some (.mapz (entA lA (dav ⟨.st j,kk⟩) (dav yz) r) (entJ lA r) st))]=(Js s2 (rs v1 v2) (lst (listed.setIfInBounds i' true))).H:=by
      funext q'
      show _=ovH (lst (listed.setIfInBounds i' true)) s2.H (rs v1 v2) q'
      rw [ovh3 _ _ _ _ _ hD2]
      by_cases e:q'=id''
      ·subst e
       rw [hs2id,hkn]
       simp only [Hp.upd,if_true]
       rw [hent]
      ·rw [hs2o q' e]
       simp only [Hp.upd,if_neg e]
       show ovH (lst listed) s.st.H (rs .top .top) q'=_
       rw [ovh3 _ _ _ _ _ hΦ.2.2]
     rw [e] at hhr
     exact hhr
    ·show (a1.put (some d1) _).tmps.size=s.nt
     have:(a1.put (some d1) (.tuple #[v0,goInt (st:Nat)])).tmps.size=a1.tmps.size:=by simp [Act.put]
     rw [this];exact hsr.nt
    ·show VR w2 F1 μ1 _ (ovT (lst (listed.setIfInBounds i' true)) s2.tm (rs v1 v2) t) _
     simp only [rs,ovT,List.length_cons,hql,hD2,hD1,hDi',Bool.false_and,Bool.true_and,isD]
     have hold:=(hsr.tm t).step hsr.hr hfr2 fun _ h=>h
     have hold:VR w2 F1 μ1 (kD (lst listed) s.N (rs .top .top)) (ovT (lst listed) s.st.tm (rs .top .top) t) (a1.tmps.getD t undef):=hold
     simp only [rs,ovT,List.length_cons,hql,hΦ.1,hΦ.2.1,hΦ.2.2,Bool.false_and] at hold
     cases e:Nat.beq d1 t with
     | true=>
      have e:=Nat.eq_of_beq_eq_true e
      subst e
      have:(a1.put (some d1) (.tuple #[v0,goInt (st:Nat)])).tmps.getD d1 undef=.tuple #[v0,goInt (st:Nat)]:=by simp [Act.put,hd1nt]
      rw [this]
      exact .mkTup (.cons (.top _) (.cons (.int _ _) .nil))
     | false=>
      have hne:=Nat.ne_of_beq_eq_false e
      have:(a1.put (some d1) (.tuple #[v0,goInt (st:Nat)])).tmps.getD t undef=a1.tmps.getD t undef:=by simp [Act.put,Array.getElem?_setIfInBounds_ne hne]
      rw [this]
      have e3:ovT (lst (listed.setIfInBounds i' true)) s2.tm q t=ovT (lst listed) s.st.tm q t:=ovT_congr fun j2 e' hj2 _=>hDo j2 (by have:=reAt_lt hj2;omega)
      simp only
      rw [e3]
      exact hold
  ·exfalso
   have h1:=hBi p hb1
   rw [hΦ.1] at h1;cases h1
  ·exfalso
   have h1:=hBi p (hall p (by omega))
   rw [hΦ.1] at h1;cases h1
 ·rintro w' F' O' μ' ft' a' ⟨D,hΦ,hD⟩
  have:=hD p (by omega)
  rw [hΦ.1] at this;cases this
 ·rw [show (⟨ops⟩:Array Oper).size=ops.length from rfl,emp]
  have:Js s.st (rs .top .top) (fun _=>false)=s.st:=by simp only [Js,eT,eH]
  rw [this]
  have e:kD (fun _=>false) s.st.N (rs .top .top)=below s.N:=eK _
  rw [e]
  exact { hr:=hs.hr.drew _,nt:=hs.nt,tm:=fun t=>(hs.tm t).drew _,df:=hs.df.same fun _ _=>rfl }
end Go.Proofs.Ytljfmaaadnoggaa.Abs
