/- A region whose order Go leaves open, at whose end an entry of a map is laid and stored (m[k] += v). No condition. -/
import Derived.Test.YtljfmaaadnoggaaGreatDoorVX
import Derived.Test.YtljfmaaadnoggaaGreatDoorWE
set_option linter.unusedSimpArgs false
set_option linter.unusedVariables false
namespace Go.Proofs.YtljfmaaadnoggaaGreatDoor.cX
open Go Go.RowKit
variable {w w' xW:World} {F F' Cq O O' wx:Nat→Prop} {μ bC kZ:Nat→Nat} {K K' Gg:Nat→Prop} {ft b8:Nat→Nat→Prop} {P:Program} {R:Type}
def ajD (o:Oper):Bool:=match o.op with
 | .lookup _ _ _ _=>true
 | _=>false
def Yv (o:Oper):Bool:=match o.guard with
 | none=>true
 | some _=>false
def lkE (E:Env) (T:bQ) (id:Nat) (t0:TypeId) (o:Oper):Option cI:=match o.op with
 | .lookup t x k false=>match T.val x,T.val k,E.P.underlying t with
  | .mp cg,.agg cs,some (.map kt et)=>match Nat.beq cg id&&Nat.beq t t0,zvT E.P et,aa9 E kt cs with
   | true,some (.d yz),some ⟨j,kk⟩=>match WJ E.P kt j,aR T.H id with
    | true,some (.dmap i l)=>match LD i with
     | 0=>none
     | n+1=>match decEq ((BE i).take (n+1)) (BE j),(BE i).drop (n+1) with
      | .isTrue _,[v]=>match ui v (.d yz) with
       | some ⟨v',z⟩=>match decEq v' v with
        | .isTrue e=>some ⟨v,ja (gk i j (n+1) kk) (CF i (n+1) v) (e▸z) l⟩
        | .isFalse _=>none
       | none=>none
      | _,_=>none
    | _,_=>none
   | _,_,_=>none
  | _,_,_=>none
 | _=>none
def QF (E:Env) (bM:List CT) (ops:List Oper) (B:Array Nat) (p id:Nat) (t0:TypeId):List Oper→Nat→bQ→(bQ→Option R)→Option R
 | [],_,T,κ=>κ T
 | o::rest,i,T,κ=>match pc T o.dst&&Yv o with
  | true=>match ajD o with
   | true=>match lkE E (T.mask ops B [(p+2,[id])] i) id t0 o with
    | some y=>QF E bM ops B p id t0 rest (i+1) (T.put o.dst (.d y)) κ
    | none=>none
   | false=>Lu E bM ops B [(p,[id]),(p+2,[id])] o i T true (fun T=>QF E bM ops B p id t0 rest (i+1) T κ)
  | false=>none
def aik (E:Env) (ops:List Oper) (B:Array Nat) (p id:Nat) (t:TypeId) (m k m3 x:Operand) (d1 d2:Nat) (T:bQ) (κ:bQ→Option R):Option R:=
 match (T.mask ops B [(p+2,[id])] p).val m,(T.mask ops B [(p+2,[id])] p).val k,E.P.underlying t with
 | .mp cg,.agg cs,some (.map kt et)=>match Nat.beq cg id,zvT E.P et,aa9 E kt cs with
  | true,some (.d yz0),some ⟨j,kk⟩=>match WJ E.P kt j,aR T.H id,bQ.val ⟨T.nt,T.N,(d1,.top)::(d2,.top)::T.tm,T.H⟩ m3 with
   | true,some (.dmap i l),.mp tD=>match Nat.beq tD id,LD i with
    | true,n+1=>match decEq ((BE i).take (n+1)) (BE j),(BE i).drop (n+1) with
     | .isTrue _,[v]=>match ui v (.d yz0),ui v (bQ.val ⟨T.nt,T.N,(d1,.top)::(d2,.top)::T.tm,T.H⟩ x) with
      | some yz,some y0=>match Ok (.st i) (get j kk++[yz]),Ok (.st i) (get j kk++[y0]) with
       | some _,some y=>κ ⟨T.nt,T.N,(d1,.top)::(d2,.top)::T.tm,cD T.H [(id,some (.dmap i (lb (gk i j (n+1) kk) l y)))]⟩
       | _,_=>none
      | _,_=>none
     | _,_=>none
    | _,_=>none
   | _,_,_=>none
  | _,_,_=>none
 | _,_,_=>none
def Qw:List Oper→Option (List Oper×Oper×Oper×Oper)
 | []=>none
 | [_]=>none
 | [_,_]=>none
 | o1::o2::o3::r=>match r with
  | []=>match o1.op with
   | .mapEntry _ _ _=>some ([],o1,o2,o3)
   | _=>none
  | _::_=>match Qw (o2::o3::r) with
   | some (pre,q)=>some (o1::pre,q)
   | none=>none
theorem SG:∀ {l pre:List Oper} {o1 o2 o3:Oper},Qw l=some (pre,o1,o2,o3)→l=pre++[o1,o2,o3]
 | [],_,_,_,_,h=>by cases h
 | [_],_,_,_,_,h=>by cases h
 | [_,_],_,_,_,_,h=>by cases h
 | a::b::c::r,pre,o1,o2,o3,h=>by
  simp only [Qw] at h
  split at h
  ·split at h
   ·cases h;rfl
   ·cases h
  ·split at h
   ·rename_i aj4 q hq
    obtain ⟨q1,q2,q3⟩:=q
    cases h
    rw [SG hq];rfl
   ·cases h
def ail (o1 o2 o3:Oper):Option (TypeId×Operand×Operand×Nat×Nat×Operand×Operand):=match o1.op,o2.op,o3.op with
 | .mapEntry t m k,.extract (.tmp a) 1,.entryStore _ m3 (.tmp b) x=>match o1.dst,o2.dst,o3.dst with
  | some d1,some d2,none=>match Yv o1&&(Yv o2&&(Yv o3&&(Nat.beq a d1&&Nat.beq b d2))) with
   | true=>some (t,m,k,d1,d2,m3,x)
   | false=>none
  | _,_,_=>none
 | _,_,_=>none
def aeI (B:Array Nat) (i:Nat):Nat→Bool
 | 0=>true
 | n+1=>bit B i n&&aeI B i n
def Uu (E:Env) (bM:List CT) (ops:List Oper) (B:Array Nat) (id:Nat) (s:bQ) (κ:bQ→Option R):Option R:=
 match Qw ops with
 | some (pre,o1,o2,o3)=>match ail o1 o2 o3 with
  | some (t,m,k,d1,d2,m3,x)=>match (tw ops B [(pre.length+2,[id])]&&(bit B (pre.length+1) pre.length&&aeI B (pre.length+2) (pre.length+2)))&&((!JU B (pre.length+1) d1 0 ops&&!Nat.beq d1 d2)&&(d1.blt s.nt&&d2.blt s.nt)) with
   | true=>match E.P.underlying t with
    | some (.map _ et)=>match zvT E.P et with
     | some (.d _)=>QF E bM ops B pre.length id t pre 0 s fun T=>aik E ops B pre.length id t m k m3 x d1 d2 T κ
     | _=>none
    | _=>none
   | false=>none
  | none=>none
 | none=>none
theorem ec.more {s s':fU} {x:Operand} {a:AV} (h:ec s x a) (l:aaw s s'):ec s' x a:=fun hs=>h (hs.less l)
theorem ZJ {B:Array Nat} {i:Nat}:∀ {n:Nat},aeI B i n=true→∀ j,j < n→bit B i j=true
 | 0,_,j,hj=>by omega
 | n+1,h,j,hj=>by
  simp only [aeI,Bool.and_eq_true] at h
  by_cases e:j=n
  ·rw [e];exact h.1
  ·exact ZJ h.2 j (by omega)
theorem UB {D:Nat→Bool} {H0:Hp} {id:Nat}:∀ {q:List RE},(∀ j e,er q j=some e→e.up=[])→z6 D H0 q id=H0 id
 | [],_=>rfl
 | e::r,h=>by
  have h1:=h r.length e (by simp [er])
  simp only [z6,h1,z0,List.any_nil,Bool.and_false]
  exact UB fun j e' hj=>h j e' (by
   have:=jF hj
   simp only [er];rw [if_neg (by omega)];exact hj)
theorem aeJ {D D':Nat→Bool} {N0:Nat}:∀ {q:List RE},(∀ j,j < q.length→D j=D' j)→kD D N0 q=kD D' N0 q
 | [],_=>rfl
 | e::r,h=>by
  funext id
  simp only [kD]
  rw [aeJ (D':=D') fun j hj=>h j (by simp;omega),h r.length (by simp)]
theorem yr {e:RE} {r:List RE} {j:Nat} (h:j < r.length):er (e::r) j=er r j:=by
 simp only [er];rw [if_neg (by omega)]
def Laid {i:Nat} (n:Nat) (y0:cI) (l lp:List (C i)):Prop:=lp=l∨∃ yz,lp=l++[yz]∧(get i yz).drop (n+1)=[y0]
theorem aa_ {i n:Nat} {v:Ty} {z:v.dn} {p:C i→Bool} {l lp:List (C i)} (h:Laid n ⟨v,z⟩ l lp):ja p (CF i (n+1) v) z lp=ja p (CF i (n+1) v) z l:=by
 rcases h with rfl | ⟨yz,rfl,hz⟩
 ·rfl
 ·unfold ja
  rw [List.find?_append]
  cases l.find? p with
  | some y=>rfl
  | none=>
   simp only [Option.none_or,List.find?_cons,List.find?_nil]
   cases p yz with
   | true=>simp [CF,hz]
   | false=>rfl
theorem aeK {i n j:Nat} {kk:C j} {v:Ty} {z:v.dn} {l:List (C i)} (hdr:(BE i).drop (n+1)=[v]):
  iu (Bd false (cN ⟨v,z⟩) (l.map fun x=>c5 (n+1) (get i x)) ((l.findIdx? (gk i j (n+1) kk)).map (0+·))) (cN ⟨v,ja (gk i j (n+1) kk) (CF i (n+1) v) z l⟩):=by
 simp only [ja]
 rcases CG (p:=gk i j (n+1) kk) (l:=l) with ⟨k1,k2⟩ | ⟨q,y,k1,k2,k3,k4⟩
 ·rw [k1,k2];exact (@iu.refl _)
 ·rw [k1,k3]
  have hd0:((get i y).drop (n+1)).map (·.t)=[v]:=by
   rw [List.map_drop,qO,hdr]
  obtain ⟨b,hb⟩:∃ b:v.dn,(get i y).drop (n+1)=[⟨v,b⟩]:=by
   match hg:(get i y).drop (n+1),hd0 with
   | [⟨t',b⟩],h0=>
    simp only [List.map_cons,List.map_nil,List.cons.injEq,and_true] at h0
    subst h0
    exact ⟨b,rfl⟩
  have m4:((l.map fun x=>c5 (n+1) (get i x)).getD (0+q) (.top,.top)).2=cN ⟨v,b⟩:=by
   simp [List.getD,k2,c5,hb]
  have m5:CF i (n+1) v y=b:=by
   unfold CF
   rw [hb]
   simp
  simp only [Option.map_some,Bd,m4,m5]
  exact (@iu.refl _)
theorem agX {E:Env} {T:bQ} {id:Nat} {t0:TypeId} {o:Oper} {y:cI} {kt0 et0:TypeId} {yz0:cI} (ht0:E.P.underlying t0=some (.map kt0 et0)) (hz0:zvT E.P et0=some (.d yz0)) (h:lkE E T id t0 o=some y):
  (∀ c,o.op≠.defer c)∧(∃ rv,de E.P o T.st ⟨rv,[],[]⟩∧iu rv (cN y))∧∃ i l n,aR T.H id=some (.dmap i l)∧LD i=n+1∧∀ (lp:List (C i)) (jj st:Nat),Laid n yz0 l lp→
   ∃ rv,de E.P o ⟨T.nt,T.N,T.st.tm,fun cg=>if cg=id then some (.JA (lp.map fun x=>c5 (LD i) (get i x)) jj st) else none⟩ ⟨rv,[],[]⟩∧iu rv (cN y):=by
 unfold lkE at h
 split at h
 ·rename_i t x k ho
  split at h
  ·rename_i cg cs kt et hx hk ht
   split at h
   ·rename_i yz j kk cb hz hkg
    simp only [Bool.and_eq_true] at cb
    have e1:=Nat.eq_of_beq_eq_true cb.1
    have e2:=Nat.eq_of_beq_eq_true cb.2
    subst e1 e2
    rw [ht] at ht0
    cases ht0
    rw [hz] at hz0
    cases hz0
    split at h
    ·rename_i i l U1 hl
     split at h
     ·cases h
     ·rename_i n hn
      split at h
      ·rename_i QG v _ hdr
       split at h
       ·rename_i v' z ZK
        split at h
        ·rename_i e _
         subst e
         cases h
         obtain ⟨fs,EV,_,_⟩:=Lz U1
         have N_:=LA U1 kk
         have hyz:yz0=⟨v',z⟩:=by
          simp only [ui] at ZK
          split at ZK
          ·split at ZK
           ·exact Option.some.inj ZK
           ·cases ZK
          ·cases ZK
         have VQ:zvA E.P et0=some (cN ⟨v',z⟩):=by
          have:=(QH hz T.H T.N).1
          simp only [TA.av] at this
          rw [this,hyz]
         have key:∀ (s:fU) (lp:List (C i)) (B:kq),s.tm=T.st.tm→s.nt=T.nt→s.H cg=some B→eV B (.map (lp.map fun x=>c5 (n+1) (get i x)))→ja (gk i j (n+1) kk) (CF i (n+1) v') z lp=ja (gk i j (n+1) kk) (CF i (n+1) v') z l→
           ∃ rv,de E.P o s ⟨rv,[],[]⟩∧iu rv (cN ⟨v',ja (gk i j (n+1) kk) (CF i (n+1) v') z l⟩):=by
          intro s lp B htm hnt hB hBi hg
          have hf:=CH QG U1 kk lp 0
          refine ⟨Bd false (cN ⟨v',z⟩) (lp.map fun x=>c5 (n+1) (get i x)) ((lp.findIdx? (gk i j (n+1) kk)).map (0+·)),cd fun {w F O μ K ft act} hs=>?_,?_⟩
          ·have Ky:SR w F O μ K ⟨s.nt,s.N,s.tm,s.H.c_ [(cg,some (.map (lp.map fun x=>c5 (n+1) (get i x))))]⟩ ft act:=by
            refine ⟨hs.hr.imp fun Dv b' cu=>?_,hs.nt,hs.tm,hs.df⟩
            simp only [Hp.c_] at cu
            by_cases e:Dv=cg
            ·rw [if_pos e] at cu
             cases cu
             exact ⟨B,by rw [e];exact hB,hBi⟩
            ·rw [if_neg e] at cu
             exact ⟨b',cu,eV.refl _⟩
           have hvl:∀ (xx:Operand),∀ {w F O μ K ft act},SR w F O μ K ⟨s.nt,s.N,s.tm,s.H.c_ [(cg,some (.map (lp.map fun x=>c5 (n+1) (get i x))))]⟩ ft act→VR w F μ K ((T.val xx).av T.H) (act.eval xx):=by
            intro xx w F O μ K ft act hs
            cases xx with
            | tmp q=>
             have:=hs.tm q
             simp only [htm] at this
             exact this
            | const u=>simp only [bQ.val,PS];exact Mz u
            | func f=>simp only [bQ.val,TA.av,dU];exact .fn _ [] [] [] [] rfl rfl (fun i h=>by cases h) (fun i h=>by cases h)
            | global g=>simp only [bQ.val,TA.av];exact .top _
           refine SH (s:=⟨s.nt,s.N,s.tm,s.H.c_ [(cg,some (.map (lp.map fun x=>c5 (n+1) (get i x))))]⟩) ho (id:=cg) (ka:=cN ⟨.st j,kk⟩) (fun hs=>?_) ?_ (fun hs=>?_) ht EV N_.1 hf VQ Ky
           ·have:=hvl x hs
            rw [hx] at this
            simpa only [TA.av] using this
           ·simp only [Hp.c_,if_true]
           ·have:=hvl k hs
            rw [hk] at this
            exact OA hkg T.H this
          ·rw [← hg];exact aeK hdr
         refine ⟨(fun c hc=>by rw [ho] at hc;cases hc),?_,i,l,n,hl,hn,fun lp jj st hlp=>?_⟩
         ·refine key T.st l _ rfl rfl (dz hl) ?_ rfl
          simp only [aY.dw,hn]
          exact eV.refl _
         ·refine key _ lp _ rfl rfl (by simp only [if_true];rfl) ?_ (aa_ (hyz▸hlp))
          rw [hn]
          exact ac8 _ _ _
        ·cases h
       ·cases h
      ·cases h
    ·cases h
   ·cases h
  ·cases h
 ·cases h
theorem aeL {p id i:Nat} (h:i < p):x4 [(p,[id]),(p+2,[id])] i=[]∧x4 [(p+2,[id])] i=[]:=by
 simp only [x4,cl (show ¬ i=p by omega),cl (show ¬ i=p+2 by omega),cl (show ¬ p=i by omega),cl (show ¬ p+2=i by omega),and_self]
structure ac9 (P:Program) (ops:List Oper) (B:Array Nat) (p id:Nat) (y0:cI) (s:bQ) (q:List RE) (e:RE) (o:Oper):Prop where
 up:e.up=[]
 one:Sx P ops B [(p+2,[id])] s.st q e o
 two:inc B q.length p=true→∀ (i n:Nat) (l lp:List (C i)) (jj st:Nat),aR s.H id=some (.dmap i l)→LD i=n+1→Laid n y0 l lp→
  Sx P ops B [(p+2,[id])] ⟨s.nt,s.N,s.st.tm,s.st.H.c_ [(id,some (.JA (lp.map fun x=>c5 (LD i) (get i x)) jj st))]⟩ q e o
theorem WK {E:Env} {bM:List CT} {ops:List Oper} {B:Array Nat} {p id:Nat} {t0 kt0 et0:TypeId} {yz0:cI} {s:bQ} {κ:bQ→Option R} {z:R} (hE:xZ E bM) (wq:∀ i o,ops[i]?=some o→B.getD i 0 < 2 ^ i) (ht0:E.P.underlying t0=some (.map kt0 et0)) (hz0:zvT E.P et0=some (.d yz0))
  (TT:∀ i,i < p→inc B i (p+2)=false):∀ {l:List Oper} {T:bQ} {q:List RE},
  QF E bM ops B p id t0 l q.length T κ=some z→Inv s ops [(p,[id]),(p+2,[id])] T q→(∀ j e,er q j=some e→e.up=[])→T.H=s.H→(∀ i o,l[i]?=some o→ops[q.length+i]?=some o)→q.length+l.length=p→
  ∃ rs Tf,κ Tf=some z∧Inv s ops [(p,[id]),(p+2,[id])] Tf rs∧rs.length=p∧Suf q rs∧(∀ j e,er rs j=some e→e.up=[])∧Tf.H=s.H∧∀ i o,l[i]?=some o→∃ e q',er rs (q.length+i)=some e∧q'.length=q.length+i∧Suf q' rs∧ac9 E.P ops B p id yz0 s q' e o
 | [],T,q,h,hi,XP,hTH,hl,hp=>by
  simp only [QF] at h
  exact ⟨q,T,h,hi,by simpa using hp,⟨[],rfl⟩,XP,hTH,fun i o ho=>by simp at ho⟩
 | o::rest,T,q,h,hi,XP,hTH,hl,hp=>by
  simp only [QF] at h
  have dQ:q.length < p:=by simp at hp;omega
  have ho0:=hl 0 o (by simp)
  have Yw:∀ (D:Nat→Bool) (H0:Hp) (cg:Nat),z6 D H0 q cg=H0 cg:=fun D H0 cg=>UB XP
  have fin:∀ (e:RE) (T':bQ),QF E bM ops B p id t0 rest (q.length+1) T' κ=some z→Inv s ops [(p,[id]),(p+2,[id])] T' (e::q)→T'.H=s.H→ac9 E.P ops B p id yz0 s q e o→
    ∃ rs Tf,κ Tf=some z∧Inv s ops [(p,[id]),(p+2,[id])] Tf rs∧rs.length=p∧Suf q rs∧(∀ j e,er rs j=some e→e.up=[])∧Tf.H=s.H∧∀ i o',(o::rest)[i]?=some o'→∃ e q',er rs (q.length+i)=some e∧q'.length=q.length+i∧Suf q' rs∧ac9 E.P ops B p id yz0 s q' e o':=by
   intro e T' h1 h2 h4 h3
   obtain ⟨rs,Tf,k1,k2,k3,k4,k6,k9,k5⟩:=WK hE wq ht0 hz0 TT (q:=e::q) h1 h2 (fun j e' hj=>by
    simp only [er] at hj
    split at hj
    ·cases hj;exact h3.up
    ·exact XP j e' hj) h4 (fun i o' LF=>by
    have:=hl (i+1) o' (by simpa using LF)
    rwa [show (e::q).length+i=q.length+(i+1) by simp;omega]) (by simp at hp ⊢;omega)
   obtain ⟨k7,k8⟩:=WA k4
   refine ⟨rs,Tf,k1,k2,k3,k7,k6,k9,fun i o' LF=>?_⟩
   cases i with
   | zero=>
    simp only [List.getElem?_cons_zero,Option.some.injEq] at LF
    subst LF
    exact ⟨e,q,k8,rfl,k7,h3⟩
   | succ i=>
    obtain ⟨e',q',m1,m2,m3,m4⟩:=k5 i o' (by simpa using LF)
    have e1:(e::q).length+i=q.length+(i+1):=by simp;omega
    exact ⟨e',q',e1▸m1,e1▸m2,m3,m4⟩
  split at h
  ·rename_i hdg
   simp only [Bool.and_eq_true] at hdg
   obtain ⟨hd,hg⟩:=hdg
   have hgn:o.guard=none:=by
    unfold Yv at hg
    cases e:o.guard with
    | none=>rfl
    | some _=>rw [e] at hg;cases hg
   have hw:∀ {w F O μ K ft a} {M:fU},SR w F O μ K M ft a→Region.wanted o (yielded ⟨ops⟩ a.tmps)=true:=fun _=>by unfold Region.wanted;rw [hgn]
   split at h
   ·split at h
    ·rename_i y hy
     obtain ⟨Ck,⟨rv,k1,k2⟩,i,l,n,k3,k4,k5⟩:=agX ht0 hz0 hy
     have hi1:Inv s ops [(p+2,[id])] T q:=⟨hi.ok,hi.nt,hi.N,hi.tm,hi.H,fun j e hj=>by
      obtain ⟨o',m1,m2,_⟩:=hi.BC j e hj
      exact ⟨o',m1,m2,fun cg cb=>by rw [XP j e hj] at cb;cases cb⟩⟩
     have mT:=hi1.Zz (B:=B) wq
     have mH:=hi1.ZA (B:=B) wq
     refine fin ⟨o.dst,cN y,[],T.N,0⟩ _ h ?_ (by rw [Lw];exact hTH) ?_
     ·refine ⟨Bz hi.ok (by simp only [TA.wf]),by rw [Yo];exact hi.nt,⟨hi.N,by rw [acY];rfl⟩,fun t=>?_,fun cg=>?_,fun j e hj=>?_⟩
      ·rw [Yp,Lw]
       simp only [BB,Bool.true_and]
       cases QU o.dst t with
       | true=>simp only [TA.av]
       | false=>exact hi.tm t
      ·rw [Lw]
       simp only [z6,z0,List.any_nil,Bool.and_false]
       exact hi.H cg
      ·simp only [er] at hj
       split at hj
       ·rename_i e1
        cases hj
        exact ⟨o,e1▸ho0,rfl,fun cg cb=>by cases cb⟩
       ·exact hi.BC j e hj
     ·have Eh:(match o.dst with | some t=>t.blt s.st.nt | none=>true)=true:=by
       show pc ⟨s.nt,s.N,s.tm,s.H⟩ o.dst=true
       cases hdd:o.dst with
       | none=>rfl
       | some t=>rw [hdd] at hd;simp only [pc] at hd ⊢;rw [← hi.nt];exact hd
      refine ⟨rfl,⟨rfl,Eh,(fun cg cb=>by cases cb),_,hi.nt,mT,mH,.inr ⟨fun hs=>hw hs,rv,[],k1,k2,fun cg cb=>(by cases cb),fun cg b' cb=>(by cases cb),Ck⟩⟩,fun DF i' n' l' lp jj st q1 q2 q3=>?_⟩
      have RX:aR (T.mask ops B [(p+2,[id])] q.length).H id=aR T.H id:=by
       rcases n_ T.H id (N7 B q.length [(p+2,[id])]) with ⟨m1,x,_⟩ | ⟨_,m2⟩
       ·simp only [N7,TT q.length dQ] at m1
        cases m1
       ·exact m2
      rw [RX,hTH,q1] at k3
      cases k3
      obtain ⟨rv2,m1,m2⟩:=k5 lp jj st (by rw [k4] at q2;cases q2;exact q3)
      refine ⟨rfl,Eh,(fun cg cb=>by cases cb),⟨T.nt,T.N,(T.mask ops B [(p+2,[id])] q.length).st.tm,fun cg=>if cg=id then some (.JA (lp.map fun x=>c5 (LD i) (get i x)) jj st) else none⟩,hi.nt,mT,fun cg=>?_,.inr ⟨fun hs=>hw hs,rv2,[],m1,m2,fun cg cb=>(by cases cb),fun cg b' cb=>(by cases cb),Ck⟩⟩
      by_cases e:cg=id
      ·refine .inr ⟨by simp only [Ig,TT q.length dQ,Bool.and_false,Bool.or_false],?_⟩
       rw [Yw]
       simp only [e,if_true,Hp.c_]
      ·exact .inl (by simp only [if_neg e])
    ·cases h
   ·obtain ⟨e,T',h1,h2,h3,h4⟩:=WB hE wq hi ho0 hd hw h
    obtain ⟨t1,t2⟩:=aeL (id:=id) dQ
    have ac_:e.up=[]:=by
     have:=h3.tou
     rw [t1] at this
     cases hu:e.up with
     | nil=>rfl
     | cons a b=>exact absurd (this a.1 (by rw [hu];simp)) (by simp)
    obtain ⟨M,c1,c2,c3,c4⟩:=h3.run
    refine fin e T' h1 h2 ((h4 t1).trans hTH) ⟨ac_,⟨h3.d,h3.ok,(fun cg cb=>by rw [ac_] at cb;cases cb),M,c1,c2,fun cg=>?_,?_⟩,fun DF i n l' lp jj st q1 q2 q3=>⟨h3.d,h3.ok,(fun cg cb=>by rw [ac_] at cb;cases cb),M,c1,c2,fun cg=>?_,?_⟩⟩
    ·rcases c3 cg with e1 | ⟨e1,e2⟩
     ·exact .inl e1
     ·refine .inr ⟨?_,e2⟩
      simp only [Ig,Bool.or_eq_false_iff] at e1 ⊢
      exact e1.2
    ·rcases c4 with ⟨a1,a2⟩ | ⟨a1,rv,N8,a2,a3,a4,a5,a6⟩
     ·exact .inl ⟨a1,a2⟩
     ·exact .inr ⟨a1,rv,N8,a2,a3,a4,(fun cg b' cb=>by rw [ac_] at cb;cases cb),a6⟩
    ·rcases c3 cg with e1 | ⟨e1,e2⟩
     ·exact .inl e1
     ·simp only [Ig,Bool.or_eq_false_iff] at e1
      have pw:cg≠id:=fun e=>by
       subst e
       have:=e1.1
       simp [DF] at this
      refine .inr ⟨by simp only [Ig,Bool.or_eq_false_iff];exact e1.2,?_⟩
      rw [e2,Yw,Yw]
      simp only [Hp.c_,if_neg pw]
    ·rcases c4 with ⟨a1,a2⟩ | ⟨a1,rv,N8,a2,a3,a4,a5,a6⟩
     ·exact .inl ⟨a1,a2⟩
     ·exact .inr ⟨a1,rv,N8,a2,a3,a4,(fun cg b' cb=>by rw [ac_] at cb;cases cb),a6⟩
  ·cases h
def aim {α:Type} (l:List α) (y:α):Option Nat→List α
 | none=>l++[y]
 | some _=>l
theorem SI {B:Array Nat} {i t:Nat}:∀ {l:List Oper} {j:Nat},(∀ q,q < l.length→inc B i (j+q)=false)→JU B i t j l=false
 | [],_,_=>rfl
 | o::r,j,h=>by
  simp only [JU,h 0 (by simp),Bool.and_false,Bool.false_or]
  have h0:=h 0 (by simp)
  rw [Nat.add_zero] at h0
  rw [h0,Bool.and_false,Bool.false_or]
  exact SI fun q hq=>by
   have:=h (q+1) (by simp;omega)
   rwa [show j+1+q=j+(q+1) by omega]
theorem ZL {x y:cI} (ht:y.t=x.t) (h:aba x y=true):x=y:=by
 obtain ⟨t,a⟩:=x
 obtain ⟨u,b⟩:=y
 simp only at ht
 subst ht
 cases u with
 | int k=>
  have:a=b:=LawfulBEq.eq_of_beq (α:=Int) h
  rw [this]
 | str=>
  have:a=b:=LawfulBEq.eq_of_beq (α:=List UInt8) h
  rw [this]
 | _=>simp [aba] at h
theorem ZM:∀ {l m:List cI},m.map (·.t)=l.map (·.t)→UC l m=true→l=m
 | [],[],_,_=>rfl
 | [],_::_,h,_=>by simp at h
 | _::_,[],h,_=>by simp at h
 | [x],[y],h,hk=>by
  simp only [List.map_cons,List.map_nil,List.cons.injEq,and_true] at h
  simp only [UC] at hk
  rw [ZL h hk]
 | [_],_::_::_,h,_=>by simp at h
 | x::x2::l,y::m,h,hk=>by
  simp only [List.map_cons,List.cons.injEq] at h
  cases m with
  | nil=>simp at h
  | cons y2 m=>
   simp only [UC,Bool.and_eq_true] at hk
   rw [ZL h.1 hk.1,ZM (l:=x2::l) (m:=y2::m) (by simpa using h.2) hk.2]
set_option maxHeartbeats 1000000 in
theorem Yt {E:Env} {bM:List CT} {ops:List Oper} {B:Array Nat} {id:Nat} {s:bQ} {κ:bQ→Option R} {z:R} {m0 rid:Nat} {n0:Nat×Nat} {ro:Option Nat} {a:Act} {Q:Exit→Act→World→Prop} (hE:xZ E bM) (a_:E.P.follows .mixedOrders=true) (h:Uu E bM ops B id s κ=some z)
  (ho:s.ok) (hm:m0≤s.N) (hn:Rw n0 s a) (hs:SR w F O μ (below s.N) s.st ft a) (hk:∀ s' a' w' F' O' bC b8,κ s'=some z→Ae w F O μ m0 n0 s' a' w' F' O' bC b8→Q .normal a' w'):(Code.region rid ⟨ops⟩ true).wpIn (Wr ro) 0 E.P Q a w:=by
 unfold Uu at h
 split at h
 case h_2=>cases h
 rename_i pre o1 o2 o3 hsp
 have abb:=SG hsp
 split at h
 case h_2=>cases h
 rename_i t m k d1 d2 m3 x M0
 split at h
 case h_2=>cases h
 rename_i ain
 simp only [Bool.and_eq_true,Bool.not_eq_true'] at ain
 obtain ⟨⟨acZ,EX,EY⟩,⟨ajE,aio⟩,ajF,ajG⟩:=ain
 have aio:=Nat.ne_of_beq_eq_false aio
 split at h
 case h_2=>cases h
 rename_i kt et ht
 split at h
 case h_2=>cases h
 rename_i yz0 hzt
 have agY:(o1.op=.mapEntry t m k∧o1.dst=some d1∧o1.guard=none)∧(o2.op=.extract (.tmp d1) 1∧o2.dst=some d2∧o2.guard=none)∧(∃ t',o3.op=.entryStore t' m3 (.tmp d2) x)∧o3.dst=none∧o3.guard=none:=by
  unfold ail at M0
  split at M0
  ·rename_i ho1 ho2 ho3
   split at M0
   ·rename_i e1 e2 e3
    split at M0
    ·rename_i hg
     simp only [Bool.and_eq_true] at hg
     obtain ⟨g1,g2,g3,g4,g5⟩:=hg
     have g4:=Nat.eq_of_beq_eq_true g4
     have g5:=Nat.eq_of_beq_eq_true g5
     subst g4 g5
     simp only [Option.some.injEq,Prod.mk.injEq] at M0
     obtain ⟨rfl,rfl,rfl,rfl,rfl,rfl,rfl⟩:=M0
     have gd:∀ o:Oper,Yv o=true→o.guard=none:=fun o ho=>by
      unfold Yv at ho
      cases e:o.guard with
      | none=>rfl
      | some _=>rw [e] at ho;cases ho
     exact ⟨⟨ho1,e1,gd _ g1⟩,⟨ho2,e2,gd _ g2⟩,⟨_,ho3⟩,e3,gd _ g3⟩
    ·cases M0
   ·cases M0
  ·cases M0
 clear M0
 obtain ⟨⟨ho1,ada,hg1⟩,⟨ho2,adb,YF⟩,⟨t',ho3⟩,ade,hg3⟩:=agY
 generalize hp:pre.length=p at *
 have hlen:ops.length=p+3:=by rw [abb];simp [hp]
 have aet:=acZ
 simp only [tw,Bool.and_eq_true] at aet
 have hB:∀ i o,ops[i]?=some o→B.getD i 0 < 2 ^ i:=fun i o MT=>by
  have:=(Ls aet.1 i o MT).2.1
  rwa [Nat.zero_add] at this
 have at1:ops[p]?=some o1:=by rw [abb,List.getElem?_append_right (by omega),hp];simp
 have at2:ops[p+1]?=some o2:=by rw [abb,List.getElem?_append_right (by omega),hp];simp
 have at3:ops[p+2]?=some o3:=by rw [abb,List.getElem?_append_right (by omega),hp];simp
 have n5:∀ j,j < p+2→bit B (p+2) j=true:=ZJ EY
 have aip:∀ j,j < p+3→inc B (p+2) j=false:=fun j hj=>by
  simp only [inc,Bool.and_eq_false_iff,Bool.not_eq_false']
  by_cases e:j=p+2
  ·exact .inl (.inl (by rw [e];exact Nat.beq_refl _))
  ·exact .inl (.inr (n5 j (by omega)))
 have aiq:∀ i,i < p→inc B i (p+2)=false:=fun i hi=>by
  simp only [inc,Bool.and_eq_false_iff,Bool.not_eq_false']
  exact .inr (n5 i (by omega))
 have agL:Inv s ops [(p,[id]),(p+2,[id])] s []:=⟨ho,rfl,rfl,fun t=>rfl,fun id=>rfl,fun j e hj=>by cases hj⟩
 obtain ⟨q,T,QT,GJ,J1,_,XP,hTH,Sy⟩:=WK hE hB ht hzt aiq (q:=[]) h agL (fun j e hj=>by cases hj) rfl (fun i o MT=>by
  simp only [List.length_nil,Nat.zero_add]
  rw [abb,List.getElem?_append_left (List.getElem?_eq_some_iff.1 MT).1]
  exact MT) (by simpa using hp)
 simp only [List.length_nil,Nat.zero_add] at Sy
 unfold aik at QT
 split at QT
 case h_2=>cases QT
 rename_i cg cs kt' et' hvm hvk ht2
 rw [ht] at ht2
 cases ht2
 split at QT
 case h_2=>cases QT
 rename_i yz1 j kk cb VQ hkg
 have cb:=Nat.eq_of_beq_eq_true cb
 subst cb
 rw [hzt] at VQ
 cases VQ
 split at QT
 case h_2=>cases QT
 rename_i i l tD U1 hl ajH
 split at QT
 case h_2=>cases QT
 rename_i n agZ hkn
 have agZ:=Nat.eq_of_beq_eq_true agZ
 subst agZ
 split at QT
 case h_2=>cases QT
 rename_i QG v _ hdr
 split at QT
 case h_2=>cases QT
 rename_i yz y0 hlz hlx
 split at QT
 case h_2=>cases QT
 rename_i air yf0 hbz hby
 obtain ⟨yzz,hyc⟩:∃ yc:C i,yc=air:=⟨air,rfl⟩
 subst hyc
 obtain ⟨y,hyc⟩:∃ yc:C i,yc=yf0:=⟨yf0,rfl⟩
 subst hyc
 have hyz:yz=yz0:=by
  simp only [ui] at hlz
  split at hlz
  ·split at hlz
   ·exact (Option.some.inj hlz).symm
   ·cases hlz
  ·cases hlz
 subst hyz
 obtain ⟨fs,EV,_,_⟩:=Lz U1
 have N_:=LA U1 kk
 have hza:zvA E.P et=some (cN yz):=by
  have:=(QH hzt T.H T.N).1
  simpa only [TA.av] using this
 obtain ⟨_,ajI,_⟩:=ix hlz
 obtain ⟨_,ajJ,ajK⟩:=ix hlx
 have hjl:(get j kk).length=n+1:=by
  have h1:=congrArg List.length (qO j kk)
  have h2:=congrArg List.length QG
  have h3:=congrArg List.length (qO i y)
  have h4:=congrArg List.length (show get i y=get j kk++[y0] from eU hby)
  simp at h1 h2 h3 h4
  omega
 have pk:∀ (yy:C i) (q0:cI),get i yy=get j kk++[q0]→c5 (n+1) (get i yy)=(cN ⟨.st j,kk⟩,cN q0):=fun yy q0 e=>by
  rw [e,M1]
  simp only [c5,← hjl,List.take_left,List.drop_left]
 have hpz:=pk yzz yz (eU hbz)
 have hpy:=pk y y0 (eU hby)
 obtain ⟨lA,hlA⟩:∃ lA,lA=l.map fun x=>c5 (n+1) (get i x):=⟨_,rfl⟩
 obtain ⟨r,hr⟩:∃ r,r=l.findIdx? (gk i j (n+1) kk):=⟨_,rfl⟩
 have hf:la (cN ⟨.st j,kk⟩) lA 0=some r:=by
  have:=CH QG U1 kk l 0
  rw [← hlA,← hr] at this
  rw [this];cases r<;>simp
 have hka:∀ jj,r=some jj→(lA.getD jj (.top,.top)).1=cN ⟨.st j,kk⟩∧jj < l.length:=fun jj e=>by
  rw [hr] at e
  obtain ⟨h1,h2,_⟩:=List.findIdx?_eq_some_iff_getElem.1 e
  refine ⟨?_,h1⟩
  have h3:=ZM (by rw [ZN QG,qO]) h2
  rw [hlA]
  have e2:((l.map fun x=>c5 (n+1) (get i x)).getD jj (.top,.top)).1=.agg (((get i l[jj]).take (n+1)).map cN):=by
   simp [List.getD,h1,c5]
  rw [e2,M1,h3]
 obtain ⟨lp,hlp⟩:∃ lp:List (C i),lp=aim l yzz r:=⟨_,rfl⟩
 have ais:Laid n yz l lp:=by
  rw [hlp]
  cases r with
  | some _=>exact .inl rfl
  | none=>
   refine .inr ⟨yzz,rfl,?_⟩
   rw [show get i yzz=get j kk++[yz] from eU hbz,← hjl,List.drop_left]
 have M0:Ii lA (cN ⟨.st j,kk⟩) (cN yz) r=lp.map fun x=>c5 (n+1) (get i x):=by
  rw [hlp,hlA]
  cases r<;>simp [Ii,aim,hpz]
 have ait:(Ii lA (cN ⟨.st j,kk⟩) (cN yz) r).set (EW lA r) (((Ii lA (cN ⟨.st j,kk⟩) (cN yz) r).getD (EW lA r) (.top,.top)).1,cN y0)=(lb (gk i j (n+1) kk) l y).map fun x=>c5 (n+1) (get i x):=by
  rw [M3 hpy,← hr,← hlA]
  cases r with
  | none=>simp [Ii,EW,pX,List.getD]
  | some jj=>simp only [Ii,EW,pX,(hka jj rfl).1]
 obtain ⟨aeM,afg⟩:∃ lf,lf=(lb (gk i j (n+1) kk) l y).map fun x=>c5 (n+1) (get i x):=⟨_,rfl⟩
 rw [← afg] at ait
 have hsH:s.st.H tD=some (.map lA):=by
  have h9:s.st.H tD=some (.map (l.map fun x=>c5 (LD i) (get i x))):=dz (by rw [← hTH];exact hl)
  rw [h9,hkn,hlA]
 have Yw:∀ (D:Nat→Bool) (H0:Hp) (cg:Nat),z6 D H0 q cg=H0 cg:=fun D H0 cg=>UB XP
 have afh:Inv s ops [(p+2,[tD])] T q:=⟨GJ.ok,GJ.nt,GJ.N,GJ.tm,GJ.H,fun j e hj=>by
  obtain ⟨o',m1,m2,_⟩:=GJ.BC j e hj
  exact ⟨o',m1,m2,fun cg cb=>by rw [XP j e hj] at cb;cases cb⟩⟩
 let r12:RE:=⟨none,.lit undef,[(tD,some (.map aeM))],T.N,0⟩
 let rs:AV→AV→List RE:=fun v1 v2=>r12::⟨some d2,v2,[],T.N,0⟩::⟨some d1,v1,[],T.N,0⟩::q
 have aiu:∀ v1 v2,(rs v1 v2).length=p+3:=fun v1 v2=>by simp [rs,J1]
 have wfr:∀ v1 v2,wfN s.N (rs v1 v2) T.N:=fun v1 v2=>⟨⟨⟨GJ.N,rfl⟩,rfl⟩,rfl⟩
 have aiv:∀ v1 v2 i',i' < p→er (rs v1 v2) i'=er q i':=fun v1 v2 i' hi=>by
  simp only [rs]
  rw [yr (by simp;omega),yr (by simp;omega),yr (by omega)]
 have ag0:∀ v1 v2,er (rs v1 v2) p=some ⟨some d1,v1,[],T.N,0⟩:=fun v1 v2=>by
  simp only [rs]
  rw [yr (by simp;omega),yr (by simp;omega)]
  simp [er,J1]
 have aiw:∀ v1 v2,er (rs v1 v2) (p+1)=some ⟨some d2,v2,[],T.N,0⟩:=fun v1 v2=>by
  simp only [rs]
  rw [yr (by simp;omega)]
  simp [er,J1]
 have aix:∀ v1 v2,er (rs v1 v2) (p+2)=some r12:=fun v1 v2=>by
  simp [rs,er,J1]
 have ag1:∀ v1 v2 (D:Nat→Bool) (H0:Hp) cg,D (p+2)=false→z6 D H0 (rs v1 v2) cg=H0 cg:=fun v1 v2 D H0 cg hD=>by
  simp only [rs,z6,List.length_cons,J1,hD,Bool.false_and,z0,List.any_nil,Bool.and_false]
  exact Yw _ _ _
 have aeN:∀ v1 v2 q',Suf q' q→Suf q' (rs v1 v2):=fun v1 v2 q' ⟨u,e⟩=>⟨r12::⟨some d2,v2,[],T.N,0⟩::⟨some d1,v1,[],T.N,0⟩::u,by simp only [rs,e,List.cons_append]⟩
 have aiy:∀ j',x4 [(p+2,[tD])] j'=if j'=p+2 then [tD] else []:=fun j'=>by
  simp only [x4]
  by_cases e:j'=p+2
  ·subst e;simp
  ·rw [if_neg e]
   first
    | rw [cl e]
    | rw [cl (fun h=>e h.symm)]
 have wtd:∀ {o:Oper} {a':Act},o.guard=none→Region.wanted o (yielded ⟨ops⟩ a'.tmps)=true:=fun hg=>by unfold Region.wanted;rw [hg]
 let Tf:bQ:=⟨T.nt,T.N,(d1,.top)::(d2,.top)::T.tm,cD T.H [(tD,some (.dmap i (lb (gk i j (n+1) kk) l y)))]⟩
 have QT:κ Tf=some z:=QT
 have jM:Sub T.H Tf.H T.N:=DJ hl rfl rfl
 have aiz:Tf.ok:=by
  refine ⟨fun t=>?_,fun id l' Ds=>?_⟩
  ·show (look ((d1,.top)::(d2,.top)::T.tm) t).wf Tf.H T.N
   simp only [look]
   cases Nat.beq t d1 with
   | true=>simp only [TA.wf]
   | false=>
    cases Nat.beq t d2 with
    | true=>simp only [TA.wf]
    | false=>exact (jQ jM (Nat.le_refl _) _ (GJ.ok.tm t)).2
  ·have Ds:aR (cD T.H [(tD,some (.dmap i (lb (gk i j (n+1) kk) l y)))]) id=some l':=Ds
   rw [tt] at Ds
   split at Ds
   ·cases Ds;simp only [aY.refs,iw]
   ·exact (iK jM (Nat.le_refl _) _ (GJ.ok.H id l' Ds)).2
 have hsN:s.N≤T.N:=by
  have key:∀ {q:List RE} {N:Nat},wfN s.N q N→s.N≤N:=by
   intro q
   induction q with
   | nil=>intro N h;exact Nat.le_of_eq h.symm
   | cons x q ih=>intro N h;have:=ih h.1;have:=h.2;omega
  exact key GJ.N
 have ajL:∀ v1 v2 (H0:Hp),(∀ cg,cg≠tD→H0 cg=s.st.H cg)→∀ w' F' O' bC b8 a',a'.defers=a.defers→SR w' F' O' bC (below T.N) ⟨s.nt,T.N,BB (fun _=>true) s.st.tm (rs v1 v2),z6 (fun _=>true) H0 (rs v1 v2)⟩ b8 a'→Fr w F O μ (below m0) w' F' O' bC→Q .normal a' w':=by
  intro v1 v2 H0 hH0 w' F' O' bC b8 a' tC iJ z9
  refine hk Tf a' w' F' O' bC b8 QT ⟨aiz,Nat.le_trans hm hsN,⟨GJ.nt.trans hn.1,by rw [tC];exact hn.2⟩,⟨?_,?_,fun t=>?_,iJ.df⟩,z9⟩
  ·have e:(z6 (fun _=>true) H0 (rs v1 v2))=xX Tf.H:=by
    funext id
    simp only [rs,z6,Bool.true_and,z0,List.any_cons,List.any_nil,Bool.or_false,r12]
    by_cases e:id=tD
    ·subst e
     simp only [Nat.beq_refl,Hp.c_,if_true]
     rw [MC (H:=Tf.H) (show aR Tf.H id=some (.dmap i (lb (gk i j (n+1) kk) l y)) by simp only [Tf];rw [tt,if_pos rfl]) rfl]
     simp only [aY.dw,hkn,afg]
    ·rw [cl (fun h=>e h.symm)]
     simp only
     rw [Yw,hH0 id e]
     have e1:aR Tf.H id=aR T.H id:=by simp only [Tf];rw [tt,if_neg e]
     show xX s.H id=xX Tf.H id
     rw [← hTH]
     unfold xX
     rw [e1]
     cases hb:aR T.H id with
     | none=>rfl
     | some b=>
      simp only [Option.bind_some]
      cases hv:b.WT with
      | false=>rfl
      | true=>
       simp only
       rw [qy jM (GJ.ok.H id _ hb)]
   have:=iJ.hr
   simp only [e] at this
   exact this
  ·exact iJ.nt.trans GJ.nt.symm
  ·have:=iJ.tm t
   simp only [rs,BB,Bool.true_and,r12,QU] at this
   show VR w' F' bC _ ((look ((d1,.top)::(d2,.top)::T.tm) t).av Tf.H) _
   simp only [look]
   cases e1:Nat.beq t d1 with
   | true=>simp only [TA.av];exact .top _
   | false=>
    cases e2:Nat.beq t d2 with
    | true=>simp only [TA.av];exact .top _
    | false=>
     rw [cl (fun h=>Nat.ne_of_beq_eq_false e2 h.symm),cl (fun h=>Nat.ne_of_beq_eq_false e1 h.symm)] at this
     simp only at this
     rw [← GJ.tm t] at this
     simp only
     rw [(jQ jM (Nat.le_refl _) _ (GJ.ok.tm t)).1]
     exact this
 have ZO:∀ (s':fU) (q':List RE) (e:RE) (o:Oper) (Z:fU→Prop),s'.nt=s.nt→e.d=o.dst→(∀ cg,cg∈e.up.map (·.1)→cg∈x4 [(p+2,[tD])] q'.length)→Z ⟨s.nt,0,fun _=>.top,fun _=>none⟩→ae9 ops B [(p+2,[tD])] s' q' e o Z:=fun s' q' e o Z h0 h1 h2 h3=>
  ⟨h1,h2,⟨s.nt,0,fun _=>.top,fun _=>none⟩,h0.symm,fun _=>.inl rfl,fun _=>.inl rfl,h3⟩
 let X1:Nat→Bool:=fun i'=>Nat.beq i' p||(Nat.beq i' (p+1)||Nat.beq i' (p+2))
 let Φ1:(Nat→Bool)→Prop:=fun D=>D p=false∧D (p+1)=false∧D (p+2)=false
 have at0:∀ i' o,ops[i']?=some o→i' < p∧pre[i']?=some o∨i'=p∧o=o1∨i'=p+1∧o=o2∨i'=p+2∧o=o3:=fun i' o MT=>by
  have dQ:i' < ops.length:=(List.getElem?_eq_some_iff.1 MT).1
  rcases Nat.lt_or_ge i' p with e | e
  ·rw [abb,List.getElem?_append_left (by omega)] at MT
   exact .inl ⟨e,MT⟩
  ·rcases (show i'=p∨i'=p+1∨i'=p+2 by omega) with e | e | e
   ·subst e;rw [at1] at MT;exact .inr (.inl ⟨rfl,(Option.some.inj MT).symm⟩)
   ·subst e;rw [at2] at MT;exact .inr (.inr (.inl ⟨rfl,(Option.some.inj MT).symm⟩))
   ·subst e;rw [at3] at MT;exact .inr (.inr (.inr ⟨rfl,(Option.some.inj MT).symm⟩))
 have emp:jG (Array.replicate ops.length false)=fun _=>false:=by
  funext j
  simp only [jG]
  by_cases h:j < ops.length<;>simp [h]
 have eT:∀ q:List RE,BB (fun _=>false) s.st.tm q=s.st.tm:=fun q=>by
  induction q with
  | nil=>rfl
  | cons x q ih=>funext t;exact congrFun ih t
 have eH:∀ q:List RE,z6 (fun _=>false) s.st.H q=s.st.H:=fun q=>by
  induction q with
  | nil=>rfl
  | cons x q ih=>funext t;exact congrFun ih t
 have eK:∀ q:List RE,kD (fun _=>false) s.N q=below s.N:=fun q=>by
  induction q with
  | nil=>rfl
  | cons x q ih=>funext t;simp [kD,ih]
 refine wpIn_region_any a_ ?_
 refine Qt (s:=s.st) (rs:=rs .top .top) (N:=T.N) (m0:=m0) (X:=X1) (Φ:=Φ1) (Z:=fun i' M=>i'=p→M=(T.mask ops B [(p+2,[tD])] p).st) (w0:=w) (F0:=F) (O0:=O) (μ0:=μ) (ds0:=a.defers) (ro:=ro) acZ (wfr _ _) hm (by rw [aiu,hlen]) ?_ ?_ ?_ ?_ _ _ _ _ F O μ ft (by simp) (by
   unfold unl
   simp [List.countP_replicate]) (by
   rw [show (⟨ops⟩:Array Oper).size=ops.length from rfl,emp];intro i hi;cases hi) ?_ (Fr.drew _) rfl (by
   rw [show (⟨ops⟩:Array Oper).size=ops.length from rfl,emp];exact ⟨rfl,rfl,rfl⟩)
 ·rintro D i' ⟨h1,h2,h3⟩ hX
  simp only [X1,Bool.or_eq_false_iff] at hX
  have e1:=Nat.ne_of_beq_eq_false hX.1
  have e2:=Nat.ne_of_beq_eq_false hX.2.1
  have e3:=Nat.ne_of_beq_eq_false hX.2.2
  simp only [Φ1,more]
  rw [if_neg (fun h=>e1 h.symm),if_neg (fun h=>e2 h.symm),if_neg (fun h=>e3 h.symm)]
  exact ⟨h1,h2,h3⟩
 ·intro i' o MT
  rcases at0 i' o MT with ⟨e,W9⟩ | ⟨rfl,rfl⟩ | ⟨rfl,rfl⟩ | ⟨rfl,rfl⟩
  ·obtain ⟨e',q',m1,m2,m3,m4⟩:=Sy i' o W9
   exact ⟨e',q',by rw [aiv _ _ _ e];exact m1,m2,aeN _ _ _ m3,.inl ⟨by simp only [X1];rw [cl (by omega),cl (by omega),cl (by omega)];rfl,m4.one⟩⟩
  ·refine ⟨_,q,ag0 _ _,J1,aeN _ _ _ ⟨[],rfl⟩,.inr ⟨by simp [X1],ada.symm,(fun cg cb=>by cases cb),_,GJ.nt,?_,?_,fun _=>rfl⟩⟩
   ·have:=afh.Zz (B:=B) hB
    rw [J1] at this
    rw [J1]
    exact this
   ·have:=afh.ZA (B:=B) hB
    rw [J1] at this
    rw [J1]
    exact this
  ·exact ⟨_,⟨some d1,.top,[],T.N,0⟩::q,aiw _ _,by simp [J1],⟨[r12,⟨some d2,.top,[],T.N,0⟩],rfl⟩,.inr ⟨by simp [X1],ZO _ _ _ _ _ rfl adb.symm (fun cg cb=>by cases cb) fun h=>by omega⟩⟩
  ·refine ⟨_,⟨some d2,.top,[],T.N,0⟩::⟨some d1,.top,[],T.N,0⟩::q,aix _ _,by simp [J1],⟨[r12],rfl⟩,.inr ⟨by simp [X1],ZO _ _ _ _ _ rfl ade.symm (fun cg cb=>?_) fun h=>by omega⟩⟩
   simp only [r12,List.map_cons,List.map_nil,List.mem_singleton] at cb
   rw [aiy,if_pos (by simp [J1]),cb]
   simp
 ·
  intro i' o M MT hX hZ fuel listed a1 w1 F1 O1 ME Zc fL hun QR hDi hBi hΦ Sz iJ z9 tC
  rcases at0 i' o MT with ⟨e,_⟩ | ⟨rfl,rfl⟩ | ⟨rfl,rfl⟩ | ⟨rfl,rfl⟩
  ·simp only [X1] at hX
   rw [cl (by omega),cl (by omega),cl (by omega)] at hX
   cases hX
  ·have hZ:=hZ rfl
   subst hZ
   unfold wpOpIn
   have ajM:(⟨ops⟩:Array Oper)[i']?=some o:=by simpa using MT
   rw [ajM]
   simp only [wtd hg1,if_true]
   refine Wp (fun c hc=>by rw [ho1] at hc;cases hc) ?_
   have hxm:ec (T.mask ops B [(i'+2,[tD])] i').st m (.mp tD):=fun {w F O μ K ft act} hs=>by have:=b9 hvm hs;simpa only [TA.av] using this
   have hxk:ec (T.mask ops B [(i'+2,[tD])] i').st k (cN ⟨.st j,kk⟩):=fun {w F O μ K ft act} hs=>OA hkg _ (hvk▸gj _ k hs)
   have hJH:(Js s.st (rs .top .top) (jG listed)).H tD=some (.map lA):=by
    show z6 (jG listed) s.st.H (rs .top .top) tD=_
    rw [ag1 _ _ _ _ _ hΦ.2.2,hsH]
   obtain ⟨v0,st,w2,O2,Nz,mb,hhr,ag2⟩:=abc ho1 (hxm.more Sz) hJH (hxk.more Sz) hza (vo ajI) N_.2.1 ht EV N_.1 hf (fun jj e=>(hka jj e).1) iJ
   unfold Oper.wp
   rw [mb,Oper.upon_value,ada]
   let s2:fU:=⟨s.nt,s.N,s.st.tm,s.st.H.c_ [(tD,some (.JA (lp.map fun x=>c5 (LD i) (get i x)) (EW lA r) st))]⟩
   let v1:AV:=.ph [.top,.int .i64 (st:Nat)]
   let v2:AV:=.int .i64 (st:Nat)
   have hil:i' < listed.size:=by rw [fL,hlen];omega
   have hD':jG (listed.setIfInBounds i' true)=more (jG listed) i':=Lt hil
   have hDo:∀ q',q'≠i'→jG (listed.setIfInBounds i' true) q'=jG listed q':=fun q' hq=>by rw [hD'];simp only [more,if_neg hq]
   have aiA:jG (listed.setIfInBounds i' true) i'=true:=by rw [hD'];simp [more]
   have afi:s2.H tD=some (.JA (lp.map fun x=>c5 (LD i) (get i x)) (EW lA r) st):=by simp [s2,Hp.c_]
   have aiB:∀ q',q'≠tD→s2.H q'=s.st.H q':=fun q' hq=>by simp only [s2,Hp.c_,if_neg hq]
   have aiC:d1 < a1.tmps.size:=by rw [iJ.nt];exact Nat.le_of_ble_eq_true ajF
   have eKK:kD (jG (listed.setIfInBounds i' true)) s2.N (rs v1 v2)=kD (jG listed) s.N (rs .top .top):=by
    funext id
    rw [hD']
    refine propext ((Oy (ag0 v1 v2) id).trans ⟨fun h=>?_,fun h=>.inl h⟩)
    rcases h with h | ⟨h1,h2⟩
    ·exact h
    ·simp only at h1 h2;omega
   refine Qt (s:=s2) (rs:=rs v1 v2) (N:=T.N) (m0:=m0) (X:=fun q'=>bit B i' q'||Nat.beq q' i') (Φ:=fun D=>∀ q',jG (listed.setIfInBounds i' true) q'=true→D q'=true) (Z:=fun _ _=>True) (w0:=w) (F0:=F) (O0:=O) (μ0:=μ) (ds0:=a.defers) (ro:=ro)
    acZ (wfr _ _) hm (by rw [aiu,hlen]) ?_ ?_ ?_ ?_ fuel _ _ w2 F1 O2 ME Nz (by simp [fL]) (by have:=Uo hil hDi;omega) ?_ ?_ (z9.trans (ag2.QQ fun id (cb:id < m0)=>Ym (show id < s.N by omega))) tC (fun _ h=>h)
   ·intro D q' hD _ q2 hq2
    simp only [more]
    split
    ·rfl
    ·exact hD q2 hq2
   ·intro q' o' ag3
    rcases at0 q' o' ag3 with ⟨e,W9⟩ | ⟨rfl,rfl⟩ | ⟨rfl,rfl⟩ | ⟨rfl,rfl⟩
    ·obtain ⟨e',q2,m1,m2,m3,m4⟩:=Sy q' o' W9
     refine ⟨e',q2,by rw [aiv _ _ _ e];exact m1,m2,aeN _ _ _ m3,?_⟩
     cases hb:bit B i' q' with
     | true=>exact .inr ⟨by simp,ZO _ _ _ _ _ rfl m4.one.d (fun cg cb=>by rw [m4.up] at cb;cases cb) trivial⟩
     | false=>
      refine .inl ⟨by simp only [Bool.false_or];exact cl (by omega),?_⟩
      have ajN:Laid n yz l lp:=ais
      refine m4.two ?_ i n l lp (EW lA r) st (by rw [← hTH];exact hl) hkn ajN
      rw [m2]
      simp only [inc,cl (show ¬ q'=i' by omega),hb,Bool.not_false,Bool.true_and,Bool.and_true]
      cases EY:bit B q' i' with
      | false=>rfl
      | true=>have:=DE (hB q' o' ag3) EY;omega
    ·exact ⟨_,q,ag0 _ _,J1,aeN _ _ _ ⟨[],rfl⟩,.inr ⟨by simp,ZO _ _ _ _ _ rfl ada.symm (fun cg cb=>by cases cb) trivial⟩⟩
    ·refine ⟨_,⟨some d1,v1,[],T.N,0⟩::q,aiw _ _,by simp [J1],⟨[r12,⟨some d2,v2,[],T.N,0⟩],rfl⟩,.inl ⟨?_,adb.symm,?_,(fun cg cb=>by cases cb),⟨s.nt,0,fun t=>if t=d1 then v1 else .top,fun _=>none⟩,rfl,fun t=>?_,fun _=>.inl rfl,.inr ⟨fun _=>wtd YF,v2,[],?_,iu.refl _,(fun cg cb=>by cases cb),(fun cg b' cb=>by cases cb),(fun c hc=>by rw [ho2] at hc;cases hc)⟩⟩⟩
     ·simp only [Bool.or_eq_false_iff]
      refine ⟨?_,cl (by omega)⟩
      cases hb:bit B i' (i'+1) with
      | false=>rfl
      | true=>have:=DE (hB i' _ at1) hb;omega
     ·rw [adb];exact ajG
     ·by_cases e:t=d1
      ·refine .inr ⟨?_,?_⟩
       ·rw [e];simp only [List.length_cons,J1];exact ajE
       ·simp only [e,if_true,BB,List.length_cons,J1,EX,QU,Nat.beq_refl,Bool.and_self]
      ·exact .inl (by simp only [if_neg e])
     ·have nA:=PG (P:=E.P) (s:=⟨s.nt,0,fun t=>if t=d1 then v1 else .top,fun _=>none⟩) (cs:=[.top,.int .i64 (st:Nat)]) ho2 (fun {w F O μ K ft act} hs=>by
       have:=hs.tm d1
       simp only [if_true] at this
       exact this) (by simp)
      exact nA
    ·let M2:fU:=⟨s.nt,0,fun t=>if t=d2 then v2 else if t=d1 then .top else (look T.tm t).av T.H,fun cg=>if cg=tD then some (.JA (lp.map fun x=>c5 (LD i) (get i x)) (EW lA r) st) else none⟩
     have hv2:∀ (xx:Operand),ec M2 xx ((bQ.val ⟨T.nt,T.N,(d1,.top)::(d2,.top)::T.tm,T.H⟩ xx).av T.H):=by
      intro xx w F O μ K ft act hs
      cases xx with
      | tmp q2=>
       have:=hs.tm q2
       simp only [bQ.val,look]
       cases e1:Nat.beq q2 d1 with
       | true=>simp only [TA.av];exact .top _
       | false=>
        cases e2:Nat.beq q2 d2 with
        | true=>simp only [TA.av];exact .top _
        | false=>
         simp only [M2,if_neg (Nat.ne_of_beq_eq_false e1),if_neg (Nat.ne_of_beq_eq_false e2)] at this
         exact this
      | const u=>simp only [bQ.val,PS];exact Mz u
      | func f=>simp only [bQ.val,TA.av,dU];exact .fn _ [] [] [] [] rfl rfl (fun i h=>by cases h) (fun i h=>by cases h)
      | global g=>simp only [bQ.val,TA.av];exact .top _
     have nA:=RA (P:=E.P) (s:=M2) (va:=cN y0) ho3 (id:=tD) (j:=EW lA r) (st:=st) (l:=lp.map fun x=>c5 (LD i) (get i x))
      (fun {w F O μ K ft act} hs=>by have:=hv2 m3 hs;rw [ajH] at this;simpa only [TA.av] using this) (by simp only [M2,if_true]) (fun {w F O μ K ft act} hs=>by
       have:=hs.tm d2
       simp only [M2,if_true] at this
       exact this) (fun {w F O μ K ft act} hs=>ajK T.H (hv2 x hs)) (vo ajJ)
     have Xf:(lp.map fun x=>c5 (LD i) (get i x)).set (EW lA r) (((lp.map fun x=>c5 (LD i) (get i x)).getD (EW lA r) (.top,.top)).1,cN y0)=aeM:=by
      rw [hkn]
      show (lp.map fun x=>c5 (n+1) (get i x)).set (EW lA r) (((lp.map fun x=>c5 (n+1) (get i x)).getD (EW lA r) (.top,.top)).1,cN y0)=aeM
      rw [← M0];exact ait
     rw [Xf] at nA
     refine ⟨_,⟨some d2,v2,[],T.N,0⟩::⟨some d1,v1,[],T.N,0⟩::q,aix _ _,by simp [J1],⟨[r12],rfl⟩,.inl ⟨?_,ade.symm,by rw [ade],fun cg cb=>?_,M2,rfl,fun t=>?_,fun cg=>?_,.inr ⟨fun _=>wtd hg3,_,_,nA,iu.refl _,(fun cg cb=>cb),fun cg b' cb cu=>?_,(fun c hc=>by rw [ho3] at hc;cases hc)⟩⟩⟩
     ·simp only [Bool.or_eq_false_iff]
      refine ⟨?_,cl (by omega)⟩
      cases hb:bit B i' (i'+2) with
      | false=>rfl
      | true=>have:=DE (hB i' _ at1) hb;omega
     ·simp only [r12,List.map_cons,List.map_nil,List.mem_singleton] at cb
      rw [aiy,if_pos (by simp [J1]),cb]
      simp
     ·have hh:JU B (i'+2) t 0 ops=false:=SI fun q2 hq2=>by rw [Nat.zero_add];exact aip q2 (by omega)
      have adf:((⟨some d2,v2,[],T.N,0⟩:RE)::⟨some d1,v1,[],T.N,0⟩::q).length=i'+2:=by simp [J1]
      rw [adf]
      by_cases e2:t=d2
      ·refine .inr ⟨hh,?_⟩
       simp only [M2,e2,if_true,BB,List.length_cons,J1,n5 (i'+1) (by omega),QU,Nat.beq_refl,Bool.and_self]
      ·by_cases e1:t=d1
       ·exact .inl (by simp only [M2,if_neg e2,if_pos e1])
       ·refine .inr ⟨hh,?_⟩
        simp only [M2,if_neg e2,if_neg e1,BB,QU,cl (fun h=>e2 h.symm),cl (fun h=>e1 h.symm),Bool.and_false]
        rw [GJ.tm t]
        refine uT fun j2 e' R9 _=>?_
        rw [n5 j2 (by have:=jF R9;omega)]
     ·by_cases e:cg=tD
      ·refine .inr ⟨?_,?_⟩
       ·have adf:((⟨some d2,v2,[],T.N,0⟩:RE)::⟨some d1,v1,[],T.N,0⟩::q).length=i'+2:=by simp [J1]
        rw [adf]
        simp only [Ig,aip (i'+2) (by omega),Bool.and_false,Bool.or_false]
       ·simp only [M2,if_pos e,z6,z0,List.any_nil,Bool.and_false]
        rw [Yw,e,afi]
      ·exact .inl (by simp only [M2,if_neg e])
     ·simp only [r12,List.map_cons,List.map_nil,List.mem_singleton] at cb
      subst cb
      simp only [r12,Hp.c_,if_true,Option.some.injEq] at cu
      exact ⟨.map aeM,by simp only [Hp.c_,if_true],by rw [cu];exact eV.refl _⟩
   ·intro q' o' M' ag3 hX2 _ ajW aiP a2 w3 F3 O3 μ3 ft3 _ _ _ aiD aj5 aiE
    exfalso
    simp only [Bool.or_eq_true] at hX2
    rcases hX2 with hX2 | hX2
    ·have h1:=hBi q' hX2
     have h2:=aiE q' (by rw [hD'];simp only [more];split<;>first | rfl | exact h1)
     rw [aiD] at h2;cases h2
    ·have e:=Nat.eq_of_beq_eq_true hX2
     have h2:=aiE q' (by rw [e];exact aiA)
     rw [aiD] at h2;cases h2
   ·intro w' F' O' bC b8 a' _ agM ajO ajP
    exact ajL v1 v2 s2.H aiB w' F' O' bC b8 a' agM ajO ajP
   ·rw [hD']
    intro q1 hq1 q2 hb
    simp only [more] at hq1 ⊢
    split
    ·rfl
    ·split at hq1
     ·rename_i e;subst e;exact hBi q2 hb
     ·exact QR q1 hq1 q2 hb
   ·have hD2:jG (listed.setIfInBounds i' true) (i'+2)=false:=by rw [hDo _ (by omega)];exact hΦ.2.2
    have hD1:jG (listed.setIfInBounds i' true) (i'+1)=false:=by rw [hDo _ (by omega)];exact hΦ.2.1
    rw [eKK]
    refine ⟨?_,?_,fun t=>?_,(iJ.df.step ag2:wP w2 F1 O2 a1.defers)⟩
    ·have e:(Js s.st (rs .top .top) (jG listed)).H.c_ [(tD,some (.JA (Ii lA (cN ⟨.st j,kk⟩) (cN yz) r) (EW lA r) st))]=(Js s2 (rs v1 v2) (jG (listed.setIfInBounds i' true))).H:=by
      funext q'
      show _=z6 (jG (listed.setIfInBounds i' true)) s2.H (rs v1 v2) q'
      rw [ag1 _ _ _ _ _ hD2]
      by_cases e:q'=tD
      ·subst e
       rw [afi,hkn]
       simp only [Hp.c_,if_true]
       rw [M0]
      ·rw [aiB q' e]
       simp only [Hp.c_,if_neg e]
       show z6 (jG listed) s.st.H (rs .top .top) q'=_
       rw [ag1 _ _ _ _ _ hΦ.2.2]
     rw [e] at hhr
     exact hhr
    ·show (a1.put (some d1) _).tmps.size=s.nt
     have:(a1.put (some d1) (.tuple #[v0,goInt (st:Nat)])).tmps.size=a1.tmps.size:=by simp [Act.put]
     rw [this];exact iJ.nt
    ·show VR w2 F1 ME _ (BB (jG (listed.setIfInBounds i' true)) s2.tm (rs v1 v2) t) _
     simp only [rs,BB,List.length_cons,J1,hD2,hD1,aiA,Bool.false_and,Bool.true_and,QU]
     have hold:=(iJ.tm t).step iJ.hr ag2 fun _ h=>h
     have hold:VR w2 F1 ME (kD (jG listed) s.N (rs .top .top)) (BB (jG listed) s.st.tm (rs .top .top) t) (a1.tmps.getD t undef):=hold
     simp only [rs,BB,List.length_cons,J1,hΦ.1,hΦ.2.1,hΦ.2.2,Bool.false_and] at hold
     cases e:Nat.beq d1 t with
     | true=>
      have e:=Nat.eq_of_beq_eq_true e
      subst e
      have:(a1.put (some d1) (.tuple #[v0,goInt (st:Nat)])).tmps.getD d1 undef=.tuple #[v0,goInt (st:Nat)]:=by simp [Act.put,aiC]
      rw [this]
      exact .Nx (.cons (.top _) (.cons (.int _ _) .nil))
     | false=>
      have pw:=Nat.ne_of_beq_eq_false e
      have:(a1.put (some d1) (.tuple #[v0,goInt (st:Nat)])).tmps.getD t undef=a1.tmps.getD t undef:=by simp [Act.put,Array.getElem?_setIfInBounds_ne pw]
      rw [this]
      have e3:BB (jG (listed.setIfInBounds i' true)) s2.tm q t=BB (jG listed) s.st.tm q t:=uT fun j2 e' R9 _=>hDo j2 (by have:=jF R9;omega)
      simp only
      rw [e3]
      exact hold
  ·exfalso
   have h1:=hBi p EX
   rw [hΦ.1] at h1;cases h1
  ·exfalso
   have h1:=hBi p (n5 p (by omega))
   rw [hΦ.1] at h1;cases h1
 ·rintro w' F' O' bC b8 a' ⟨D,hΦ,hD⟩
  have:=hD p (by omega)
  rw [hΦ.1] at this;cases this
 ·rw [show (⟨ops⟩:Array Oper).size=ops.length from rfl,emp]
  have:Js s.st (rs .top .top) (fun _=>false)=s.st:=by simp only [Js,eT,eH]
  rw [this]
  have e:kD (fun _=>false) s.st.N (rs .top .top)=below s.N:=eK _
  rw [e]
  exact { hr:=hs.hr.drew _,nt:=hs.nt,tm:=fun t=>(hs.tm t).drew _,df:=hs.df.same fun _ _=>rfl }
end Go.Proofs.YtljfmaaadnoggaaGreatDoor.cX
