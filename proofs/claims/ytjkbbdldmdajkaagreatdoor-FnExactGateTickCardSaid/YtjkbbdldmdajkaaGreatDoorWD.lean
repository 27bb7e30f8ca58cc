/- A region whose order Go leaves open, at whose end an entry of a map is laid and stored (m[k] += v). No condition. -/
import Derived.Test.YtjkbbdldmdajkaaGreatDoorVX
import Derived.Test.YtjkbbdldmdajkaaGreatDoorWE
set_option linter.unusedSimpArgs false
set_option linter.unusedVariables false
namespace Go.Proofs.YtjkbbdldmdajkaaGreatDoor.c_
open Go Go.RowKit
variable {w w' xh:World} {F F' Bn O O' vW:Nat→Prop} {μ bD lF:Nat→Nat} {K K' EB:Nat→Prop} {ft bY:Nat→Nat→Prop} {P:Program} {R:Type}
def ahc (o:Oper):Bool:=match o.op with
 | .lookup _ _ _ _=>true
 | _=>false
def V0 (o:Oper):Bool:=match o.guard with
 | none=>true
 | some _=>false
def lkE (E:Env) (T:bP) (id:Nat) (t0:TypeId) (o:Oper):Option cN:=match o.op with
 | .lookup t x k false=>match T.val x,T.val k,E.P.underlying t with
  | .mp b9,.agg cs,some (.map kt et)=>match Nat.beq b9 id&&Nat.beq t t0,zvT E.P et,YF E kt cs with
   | true,some (.d yz),some ⟨j,kk⟩=>match Um E.P kt j,aT T.H id with
    | true,some (.dmap i l)=>match JF i with
     | 0=>none
     | n+1=>match decEq ((Az i).take (n+1)) (Az j),(Az i).drop (n+1) with
      | .isTrue _,[v]=>match ua v (.d yz) with
       | some ⟨v',z⟩=>match decEq v' v with
        | .isTrue e=>some ⟨v,nM (gD i j (n+1) kk) (BE i (n+1) v) (e▸z) l⟩
        | .isFalse _=>none
       | none=>none
      | _,_=>none
    | _,_=>none
   | _,_,_=>none
  | _,_,_=>none
 | _=>none
def OG (E:Env) (bN:List CT) (ops:List Oper) (B:Array Nat) (p id:Nat) (t0:TypeId):List Oper→Nat→bP→(bP→Option R)→Option R
 | [],_,T,κ=>κ T
 | o::rest,i,T,κ=>match pz T o.dst&&V0 o with
  | true=>match ahc o with
   | true=>match lkE E (T.mask ops B [(p+2,[id])] i) id t0 o with
    | some y=>OG E bN ops B p id t0 rest (i+1) (T.put o.dst (.d y)) κ
    | none=>none
   | false=>Jw E bN ops B [(p,[id]),(p+2,[id])] o i T true (fun T=>OG E bN ops B p id t0 rest (i+1) T κ)
  | false=>none
def afT (E:Env) (ops:List Oper) (B:Array Nat) (p id:Nat) (t:TypeId) (m k m3 x:Operand) (d1 d2:Nat) (T:bP) (κ:bP→Option R):Option R:=
 match (T.mask ops B [(p+2,[id])] p).val m,(T.mask ops B [(p+2,[id])] p).val k,E.P.underlying t with
 | .mp b9,.agg cs,some (.map kt et)=>match Nat.beq b9 id,zvT E.P et,YF E kt cs with
  | true,some (.d Y4),some ⟨j,kk⟩=>match Um E.P kt j,aT T.H id,bP.val ⟨T.nt,T.N,(d1,.top)::(d2,.top)::T.tm,T.H⟩ m3 with
   | true,some (.dmap i l),.mp tr=>match Nat.beq tr id,JF i with
    | true,n+1=>match decEq ((Az i).take (n+1)) (Az j),(Az i).drop (n+1) with
     | .isTrue _,[v]=>match ua v (.d Y4),ua v (bP.val ⟨T.nt,T.N,(d1,.top)::(d2,.top)::T.tm,T.H⟩ x) with
      | some yz,some y0=>match Mf (.st i) (get j kk++[yz]),Mf (.st i) (get j kk++[y0]) with
       | some _,some y=>κ ⟨T.nt,T.N,(d1,.top)::(d2,.top)::T.tm,cD T.H [(id,some (.dmap i (pA (gD i j (n+1) kk) l y)))]⟩
       | _,_=>none
      | _,_=>none
     | _,_=>none
    | _,_=>none
   | _,_,_=>none
  | _,_,_=>none
 | _,_,_=>none
def Ox:List Oper→Option (List Oper×Oper×Oper×Oper)
 | []=>none
 | [_]=>none
 | [_,_]=>none
 | o1::o2::o3::r=>match r with
  | []=>match o1.op with
   | .mapEntry _ _ _=>some ([],o1,o2,o3)
   | _=>none
  | _::_=>match Ox (o2::o3::r) with
   | some (pre,q)=>some (o1::pre,q)
   | none=>none
theorem Qw:∀ {l pre:List Oper} {o1 o2 o3:Oper},Ox l=some (pre,o1,o2,o3)→l=pre++[o1,o2,o3]
 | [],_,_,_,_,h=>by cases h
 | [_],_,_,_,_,h=>by cases h
 | [_,_],_,_,_,_,h=>by cases h
 | a::b::c::r,pre,o1,o2,o3,h=>by
  simp only [Ox] at h;split at h
  ·split at h
   ·cases h;rfl
   ·cases h
  ·split at h
   ·rename_i ahC q hq;obtain ⟨q1,q2,q3⟩:=q;cases h;rw [Qw hq];rfl
   ·cases h
def afU (o1 o2 o3:Oper):Option (TypeId×Operand×Operand×Nat×Nat×Operand×Operand):=match o1.op,o2.op,o3.op with
 | .mapEntry t m k,.extract (.tmp a) 1,.entryStore _ m3 (.tmp b) x=>match o1.dst,o2.dst,o3.dst with
  | some d1,some d2,none=>match V0 o1&&(V0 o2&&(V0 o3&&(Nat.beq a d1&&Nat.beq b d2))) with
   | true=>some (t,m,k,d1,d2,m3,x)
   | false=>none
  | _,_,_=>none
 | _,_,_=>none
def acO (B:Array Nat) (i:Nat):Nat→Bool
 | 0=>true
 | n+1=>bit B i n&&acO B i n
def R9 (E:Env) (bN:List CT) (ops:List Oper) (B:Array Nat) (id:Nat) (s:bP) (κ:bP→Option R):Option R:=
 match Ox ops with
 | some (pre,o1,o2,o3)=>match afU o1 o2 o3 with
  | some (t,m,k,d1,d2,m3,x)=>match (th ops B [(pre.length+2,[id])]&&(bit B (pre.length+1) pre.length&&acO B (pre.length+2) (pre.length+2)))&&((!H4 B (pre.length+1) d1 0 ops&&!Nat.beq d1 d2)&&(d1.blt s.nt&&d2.blt s.nt)) with
   | true=>match E.P.underlying t with
    | some (.map _ et)=>match zvT E.P et with
     | some (.d _)=>OG E bN ops B pre.length id t pre 0 s fun T=>afT E ops B pre.length id t m k m3 x d1 d2 T κ
     | _=>none
    | _=>none
   | false=>none
  | none=>none
 | none=>none
theorem ee.more {s s':fU} {x:Operand} {a:AV} (h:ee s x a) (l:XW s s'):ee s' x a:=fun hs=>h (hs.less l)
theorem W7 {B:Array Nat} {i:Nat}:∀ {n:Nat},acO B i n=true→∀ j,j < n→bit B i j=true
 | 0,_,j,hj=>by omega
 | n+1,h,j,hj=>by
  simp only [acO,Bool.and_eq_true] at h;by_cases e:j=n
  ·rw [e];exact h.1
  ·exact W7 h.2 j (by omega)
theorem Sf {D:Nat→Bool} {H0:Hp} {id:Nat}:∀ {q:List RE},(∀ j e,eU q j=some e→e.up=[])→y6 D H0 q id=H0 id
 | [],_=>rfl
 | e::r,h=>by
  have h1:=h r.length e (by simp [eU]);simp only [y6,h1,y5,List.any_nil,Bool.and_false];exact Sf fun j e' hj=>h j e' (by
   have:=jH hj;simp only [eU];rw [if_neg (by omega)];exact hj)
theorem acP {D D':Nat→Bool} {N0:Nat}:∀ {q:List RE},(∀ j,j < q.length→D j=D' j)→kD D N0 q=kD D' N0 q
 | [],_=>rfl
 | e::r,h=>by
  funext id;simp only [kD];rw [acP (D':=D') fun j hj=>h j (by simp;omega),h r.length (by simp)]
theorem xO {e:RE} {r:List RE} {j:Nat} (h:j < r.length):eU (e::r) j=eU r j:=by
 simp only [eU];rw [if_neg (by omega)]
def Laid {i:Nat} (n:Nat) (y0:cN) (l lp:List (C i)):Prop:=lp=l∨∃ yz,lp=l++[yz]∧(get i yz).drop (n+1)=[y0]
theorem YG {i n:Nat} {v:Ty} {z:v.dn} {p:C i→Bool} {l lp:List (C i)} (h:Laid n ⟨v,z⟩ l lp):nM p (BE i (n+1) v) z lp=nM p (BE i (n+1) v) z l:=by
 rcases h with rfl | ⟨yz,rfl,hz⟩
 ·rfl
 ·unfold nM;rw [List.find?_append];cases l.find? p with
  | some y=>rfl
  | none=>
   simp only [Option.none_or,List.find?_cons,List.find?_nil];cases p yz with
   | true=>simp [BE,hz]
   | false=>rfl
theorem acQ {i n j:Nat} {kk:C j} {v:Ty} {z:v.dn} {l:List (C i)} (hdr:(Az i).drop (n+1)=[v]):
  ik (Ab false (cT ⟨v,z⟩) (l.map fun x=>dc (n+1) (get i x)) ((l.findIdx? (gD i j (n+1) kk)).map (0+·))) (cT ⟨v,nM (gD i j (n+1) kk) (BE i (n+1) v) z l⟩):=by
 simp only [nM];rcases BF (p:=gD i j (n+1) kk) (l:=l) with ⟨k1,k2⟩ | ⟨q,y,k1,k2,k3,k4⟩
 ·rw [k1,k2];exact (@ik.refl _)
 ·rw [k1,k3];have hd0:((get i y).drop (n+1)).map (·.t)=[v]:=by
   rw [List.map_drop,qZ,hdr]
  obtain ⟨b,hb⟩:∃ b:v.dn,(get i y).drop (n+1)=[⟨v,b⟩]:=by
   match hg:(get i y).drop (n+1),hd0 with
   | [⟨t',b⟩],h0=>
    simp only [List.map_cons,List.map_nil,List.cons.injEq,and_true] at h0;subst h0;exact ⟨b,rfl⟩
  have m4:((l.map fun x=>dc (n+1) (get i x)).getD (0+q) (.top,.top)).2=cT ⟨v,b⟩:=by
   simp [List.getD,k2,dc,hb]
  have m5:BE i (n+1) v y=b:=by
   unfold BE;rw [hb];simp
  simp only [Option.map_some,Ab,m4,m5];exact (@ik.refl _)
theorem aeG {E:Env} {T:bP} {id:Nat} {t0:TypeId} {o:Oper} {y:cN} {kt0 et0:TypeId} {Y4:cN} (ht0:E.P.underlying t0=some (.map kt0 et0)) (hz0:zvT E.P et0=some (.d Y4)) (h:lkE E T id t0 o=some y):
  (∀ c,o.op≠.defer c)∧(∃ rv,dr E.P o T.st ⟨rv,[],[]⟩∧ik rv (cT y))∧∃ i l n,aT T.H id=some (.dmap i l)∧JF i=n+1∧∀ (lp:List (C i)) (jj st:Nat),Laid n Y4 l lp→
   ∃ rv,dr E.P o ⟨T.nt,T.N,T.st.tm,fun b9=>if b9=id then some (.HE (lp.map fun x=>dc (JF i) (get i x)) jj st) else none⟩ ⟨rv,[],[]⟩∧ik rv (cT y):=by
 unfold lkE at h;split at h
 ·rename_i t x k ho;split at h
  ·rename_i b9 cs kt et hx hk ht;split at h
   ·rename_i yz j kk bZ hz hkg;simp only [Bool.and_eq_true] at bZ;have e1:=Nat.eq_of_beq_eq_true bZ.1;have e2:=Nat.eq_of_beq_eq_true bZ.2;subst e1 e2;rw [ht] at ht0;cases ht0;rw [hz] at hz0;cases hz0;split at h
    ·rename_i i l Sw hl;split at h
     ·cases h
     ·rename_i n hn;split at h
      ·rename_i OH v _ hdr;split at h
       ·rename_i v' z W8;split at h
        ·rename_i e _;subst e;cases h;obtain ⟨fs,DH,_,_⟩:=JB Sw;have L6:=JC Sw kk;have hyz:Y4=⟨v',z⟩:=by
          simp only [ua] at W8;split at W8
          ·split at W8
           ·exact Option.some.inj W8
           ·cases W8
          ·cases W8
         have Tq:zvA E.P et0=some (cT ⟨v',z⟩):=by
          have:=(OI hz T.H T.N).1;simp only [TA.av] at this;rw [this,hyz]
         have key:∀ (s:fU) (lp:List (C i)) (B:jV),s.tm=T.st.tm→s.nt=T.nt→s.H b9=some B→eQ B (.map (lp.map fun x=>dc (n+1) (get i x)))→nM (gD i j (n+1) kk) (BE i (n+1) v') z lp=nM (gD i j (n+1) kk) (BE i (n+1) v') z l→
           ∃ rv,dr E.P o s ⟨rv,[],[]⟩∧ik rv (cT ⟨v',nM (gD i j (n+1) kk) (BE i (n+1) v') z l⟩):=by
          intro s lp B htm hnt hB hBi hg;have hf:=BG OH Sw kk lp 0;refine ⟨Ab false (cT ⟨v',z⟩) (lp.map fun x=>dc (n+1) (get i x)) ((lp.findIdx? (gD i j (n+1) kk)).map (0+·)),b6 fun {w F O μ K ft act} hs=>?_,?_⟩
          ·have IA:SR w F O μ K ⟨s.nt,s.N,s.tm,s.H.dh [(b9,some (.map (lp.map fun x=>dc (n+1) (get i x))))]⟩ ft act:=by
            refine ⟨hs.hr.imp fun Cu b' cl=>?_,hs.nt,hs.tm,hs.df⟩;simp only [Hp.dh] at cl;by_cases e:Cu=b9
            ·rw [if_pos e] at cl;cases cl;exact ⟨B,by rw [e];exact hB,hBi⟩
            ·rw [if_neg e] at cl;exact ⟨b',cl,eQ.refl _⟩
           have hvl:∀ (xx:Operand),∀ {w F O μ K ft act},SR w F O μ K ⟨s.nt,s.N,s.tm,s.H.dh [(b9,some (.map (lp.map fun x=>dc (n+1) (get i x))))]⟩ ft act→VR w F μ K ((T.val xx).av T.H) (act.eval xx):=by
            intro xx w F O μ K ft act hs;cases xx with
            | tmp q=>
             have:=hs.tm q;simp only [htm] at this;exact this
            | const u=>simp only [bP.val,NL];exact Kw u
            | func f=>simp only [bP.val,TA.av,er];exact .fn _ [] [] [] [] rfl rfl (fun i h=>by cases h) (fun i h=>by cases h)
            | global g=>simp only [bP.val,TA.av];exact .top _
           refine Qx (s:=⟨s.nt,s.N,s.tm,s.H.dh [(b9,some (.map (lp.map fun x=>dc (n+1) (get i x))))]⟩) ho (id:=b9) (ka:=cT ⟨.st j,kk⟩) (fun hs=>?_) ?_ (fun hs=>?_) ht DH L6.1 hf Tq IA
           ·have:=hvl x hs;rw [hx] at this;simpa only [TA.av] using this
           ·simp only [Hp.dh,if_true]
           ·have:=hvl k hs;rw [hk] at this;exact Mr hkg T.H this
          ·rw [← hg];exact acQ hdr
         refine ⟨(fun c hc=>by rw [ho] at hc;cases hc),?_,i,l,n,hl,hn,fun lp jj st hlp=>?_⟩
         ·refine key T.st l _ rfl rfl (dG hl) ?_ rfl;simp only [aY.dC,hn];exact eQ.refl _
         ·refine key _ lp _ rfl rfl (by simp only [if_true];rfl) ?_ (YG (hyz▸hlp));rw [hn];exact aa7 _ _ _
        ·cases h
       ·cases h
      ·cases h
    ·cases h
   ·cases h
  ·cases h
 ·cases h
theorem acR {p id i:Nat} (h:i < p):xn [(p,[id]),(p+2,[id])] i=[]∧xn [(p+2,[id])] i=[]:=by
 simp only [xn,cd (show ¬ i=p by omega),cd (show ¬ i=p+2 by omega),cd (show ¬ p=i by omega),cd (show ¬ p+2=i by omega),and_self]
structure aa8 (P:Program) (ops:List Oper) (B:Array Nat) (p id:Nat) (y0:cN) (s:bP) (q:List RE) (e:RE) (o:Oper):Prop where
 up:e.up=[]
 one:Qn P ops B [(p+2,[id])] s.st q e o
 two:inc B q.length p=true→∀ (i n:Nat) (l lp:List (C i)) (jj st:Nat),aT s.H id=some (.dmap i l)→JF i=n+1→Laid n y0 l lp→
  Qn P ops B [(p+2,[id])] ⟨s.nt,s.N,s.st.tm,s.st.H.dh [(id,some (.HE (lp.map fun x=>dc (JF i) (get i x)) jj st))]⟩ q e o
theorem Un {E:Env} {bN:List CT} {ops:List Oper} {B:Array Nat} {p id:Nat} {t0 kt0 et0:TypeId} {Y4:cN} {s:bP} {κ:bP→Option R} {z:R} (hE:xm E bN) (xj:∀ i o,ops[i]?=some o→B.getD i 0 < 2 ^ i) (ht0:E.P.underlying t0=some (.map kt0 et0)) (hz0:zvT E.P et0=some (.d Y4))
  (Rv:∀ i,i < p→inc B i (p+2)=false):∀ {l:List Oper} {T:bP} {q:List RE},
  OG E bN ops B p id t0 l q.length T κ=some z→Inv s ops [(p,[id]),(p+2,[id])] T q→(∀ j e,eU q j=some e→e.up=[])→T.H=s.H→(∀ i o,l[i]?=some o→ops[q.length+i]?=some o)→q.length+l.length=p→
  ∃ rs Tf,κ Tf=some z∧Inv s ops [(p,[id]),(p+2,[id])] Tf rs∧rs.length=p∧Yz q rs∧(∀ j e,eU rs j=some e→e.up=[])∧Tf.H=s.H∧∀ i o,l[i]?=some o→∃ e q',eU rs (q.length+i)=some e∧q'.length=q.length+i∧Yz q' rs∧aa8 E.P ops B p id Y4 s q' e o
 | [],T,q,h,hi,Vk,hTH,hl,hp=>by
  simp only [OG] at h;exact ⟨q,T,h,hi,by simpa using hp,⟨[],rfl⟩,Vk,hTH,fun i o ho=>by simp at ho⟩
 | o::rest,T,q,h,hi,Vk,hTH,hl,hp=>by
  simp only [OG] at h;have dT:q.length < p:=by simp at hp;omega
  have ho0:=hl 0 o (by simp);have V1:∀ (D:Nat→Bool) (H0:Hp) (b9:Nat),y6 D H0 q b9=H0 b9:=fun D H0 b9=>Sf Vk;have fin:∀ (e:RE) (T':bP),OG E bN ops B p id t0 rest (q.length+1) T' κ=some z→Inv s ops [(p,[id]),(p+2,[id])] T' (e::q)→T'.H=s.H→aa8 E.P ops B p id Y4 s q e o→
    ∃ rs Tf,κ Tf=some z∧Inv s ops [(p,[id]),(p+2,[id])] Tf rs∧rs.length=p∧Yz q rs∧(∀ j e,eU rs j=some e→e.up=[])∧Tf.H=s.H∧∀ i o',(o::rest)[i]?=some o'→∃ e q',eU rs (q.length+i)=some e∧q'.length=q.length+i∧Yz q' rs∧aa8 E.P ops B p id Y4 s q' e o':=by
   intro e T' h1 h2 h4 h3;obtain ⟨rs,Tf,k1,k2,k3,k4,k6,k9,k5⟩:=Un hE xj ht0 hz0 Rv (q:=e::q) h1 h2 (fun j e' hj=>by
    simp only [eU] at hj;split at hj
    ·cases hj;exact h3.up
    ·exact Vk j e' hj) h4 (fun i o' JG=>by
    have:=hl (i+1) o' (by simpa using JG);rwa [show (e::q).length+i=q.length+(i+1) by simp;omega]) (by simp at hp ⊢;omega)
   obtain ⟨k7,k8⟩:=Ue k4;refine ⟨rs,Tf,k1,k2,k3,k7,k6,k9,fun i o' JG=>?_⟩;cases i with
   | zero=>
    simp only [List.getElem?_cons_zero,Option.some.injEq] at JG;subst JG;exact ⟨e,q,k8,rfl,k7,h3⟩
   | succ i=>
    obtain ⟨e',q',m1,m2,m3,m4⟩:=k5 i o' (by simpa using JG);have e1:(e::q).length+i=q.length+(i+1):=by simp;omega
    exact ⟨e',q',e1▸m1,e1▸m2,m3,m4⟩
  split at h
  ·rename_i hdg;simp only [Bool.and_eq_true] at hdg;obtain ⟨hd,hg⟩:=hdg;have hgn:o.guard=none:=by
    unfold V0 at hg;cases e:o.guard with
    | none=>rfl
    | some _=>rw [e] at hg;cases hg
   have hw:∀ {w F O μ K ft a} {M:fU},SR w F O μ K M ft a→Region.wanted o (yielded ⟨ops⟩ a.tmps)=true:=fun _=>by unfold Region.wanted;rw [hgn]
   split at h
   ·split at h
    ·rename_i y hy;obtain ⟨AA,⟨rv,k1,k2⟩,i,l,n,k3,k4,k5⟩:=aeG ht0 hz0 hy;have hi1:Inv s ops [(p+2,[id])] T q:=⟨hi.ok,hi.nt,hi.N,hi.tm,hi.H,fun j e hj=>by
      obtain ⟨o',m1,m2,_⟩:=hi.Ax j e hj;exact ⟨o',m1,m2,fun b9 bZ=>by rw [Vk j e hj] at bZ;cases bZ⟩⟩
     have mT:=hi1.WW (B:=B) xj;have mH:=hi1.WX (B:=B) xj;refine fin ⟨o.dst,cT y,[],T.N,0⟩ _ h ?_ (by rw [Jy];exact hTH) ?_
     ·refine ⟨Au hi.ok (by simp only [TA.wf]),by rw [VT];exact hi.nt,⟨hi.N,by rw [aaY];rfl⟩,fun t=>?_,fun b9=>?_,fun j e hj=>?_⟩
      ·rw [VU,Jy];simp only [Aw,Bool.true_and];cases OV o.dst t with
       | true=>simp only [TA.av]
       | false=>exact hi.tm t
      ·rw [Jy];simp only [y6,y5,List.any_nil,Bool.and_false];exact hi.H b9
      ·simp only [eU] at hj;split at hj
       ·rename_i e1;cases hj;exact ⟨o,e1▸ho0,rfl,fun b9 bZ=>by cases bZ⟩
       ·exact hi.Ax j e hj
     ·have o9:(match o.dst with | some t=>t.blt s.st.nt | none=>true)=true:=by
       show pz ⟨s.nt,s.N,s.tm,s.H⟩ o.dst=true;cases hdd:o.dst with
       | none=>rfl
       | some t=>rw [hdd] at hd;simp only [pz] at hd ⊢;rw [← hi.nt];exact hd
      refine ⟨rfl,⟨rfl,o9,(fun b9 bZ=>by cases bZ),_,hi.nt,mT,mH,.inr ⟨fun hs=>hw hs,rv,[],k1,k2,fun b9 bZ=>(by cases bZ),fun b9 b' bZ=>(by cases bZ),AA⟩⟩,fun CE i' n' l' lp jj st q1 q2 q3=>?_⟩;have PW:aT (T.mask ops B [(p+2,[id])] q.length).H id=aT T.H id:=by
       rcases oB T.H id (L2 B q.length [(p+2,[id])]) with ⟨m1,x,_⟩ | ⟨_,m2⟩
       ·simp only [L2,Rv q.length dT] at m1;cases m1
       ·exact m2
      rw [PW,hTH,q1] at k3;cases k3;obtain ⟨rv2,m1,m2⟩:=k5 lp jj st (by rw [k4] at q2;cases q2;exact q3);refine ⟨rfl,o9,(fun b9 bZ=>by cases bZ),⟨T.nt,T.N,(T.mask ops B [(p+2,[id])] q.length).st.tm,fun b9=>if b9=id then some (.HE (lp.map fun x=>dc (JF i) (get i x)) jj st) else none⟩,hi.nt,mT,fun b9=>?_,.inr ⟨fun hs=>hw hs,rv2,[],m1,m2,fun b9 bZ=>(by cases bZ),fun b9 b' bZ=>(by cases bZ),AA⟩⟩;by_cases e:b9=id
      ·refine .inr ⟨by simp only [Gm,Rv q.length dT,Bool.and_false,Bool.or_false],?_⟩;rw [V1];simp only [e,if_true,Hp.dh]
      ·exact .inl (by simp only [if_neg e])
    ·cases h
   ·obtain ⟨e,T',h1,h2,h3,h4⟩:=Uf hE xj hi ho0 hd hw h;obtain ⟨t1,t2⟩:=acR (id:=id) dT;have aa9:e.up=[]:=by
     have:=h3.tou;rw [t1] at this;cases hu:e.up with
     | nil=>rfl
     | cons a b=>exact absurd (this a.1 (by rw [hu];simp)) (by simp)
    obtain ⟨M,c1,c2,c3,c4⟩:=h3.run;refine fin e T' h1 h2 ((h4 t1).trans hTH) ⟨aa9,⟨h3.d,h3.ok,(fun b9 bZ=>by rw [aa9] at bZ;cases bZ),M,c1,c2,fun b9=>?_,?_⟩,fun CE i n l' lp jj st q1 q2 q3=>⟨h3.d,h3.ok,(fun b9 bZ=>by rw [aa9] at bZ;cases bZ),M,c1,c2,fun b9=>?_,?_⟩⟩
    ·rcases c3 b9 with e1 | ⟨e1,e2⟩
     ·exact .inl e1
     ·refine .inr ⟨?_,e2⟩;simp only [Gm,Bool.or_eq_false_iff] at e1 ⊢;exact e1.2
    ·rcases c4 with ⟨a1,a2⟩ | ⟨a1,rv,L3,a2,a3,a4,a5,a6⟩
     ·exact .inl ⟨a1,a2⟩
     ·exact .inr ⟨a1,rv,L3,a2,a3,a4,(fun b9 b' bZ=>by rw [aa9] at bZ;cases bZ),a6⟩
    ·rcases c3 b9 with e1 | ⟨e1,e2⟩
     ·exact .inl e1
     ·simp only [Gm,Bool.or_eq_false_iff] at e1;have qJ:b9≠id:=fun e=>by
       subst e;have:=e1.1;simp [CE] at this
      refine .inr ⟨by simp only [Gm,Bool.or_eq_false_iff];exact e1.2,?_⟩;rw [e2,V1,V1];simp only [Hp.dh,if_neg qJ]
    ·rcases c4 with ⟨a1,a2⟩ | ⟨a1,rv,L3,a2,a3,a4,a5,a6⟩
     ·exact .inl ⟨a1,a2⟩
     ·exact .inr ⟨a1,rv,L3,a2,a3,a4,(fun b9 b' bZ=>by rw [aa9] at bZ;cases bZ),a6⟩
  ·cases h
def afV {α:Type} (l:List α) (y:α):Option Nat→List α
 | none=>l++[y]
 | some _=>l
theorem Qy {B:Array Nat} {i t:Nat}:∀ {l:List Oper} {j:Nat},(∀ q,q < l.length→inc B i (j+q)=false)→H4 B i t j l=false
 | [],_,_=>rfl
 | o::r,j,h=>by
  simp only [H4,h 0 (by simp),Bool.and_false,Bool.false_or];have h0:=h 0 (by simp);rw [Nat.add_zero] at h0;rw [h0,Bool.and_false,Bool.false_or];exact Qy fun q hq=>by
   have:=h (q+1) (by simp;omega);rwa [show j+1+q=j+(q+1) by omega]
theorem W9 {x y:cN} (ht:y.t=x.t) (h:YH x y=true):x=y:=by
 obtain ⟨t,a⟩:=x;obtain ⟨u,b⟩:=y;simp only at ht;subst ht;cases u with
 | int k=>
  have:a=b:=LawfulBEq.eq_of_beq (α:=Int) h;rw [this]
 | str=>
  have:a=b:=LawfulBEq.eq_of_beq (α:=List UInt8) h;rw [this]
 | _=>simp [YH] at h
theorem W_:∀ {l m:List cN},m.map (·.t)=l.map (·.t)→Sg l m=true→l=m
 | [],[],_,_=>rfl
 | [],_::_,h,_=>by simp at h
 | _::_,[],h,_=>by simp at h
 | [x],[y],h,hk=>by
  simp only [List.map_cons,List.map_nil,List.cons.injEq,and_true] at h;simp only [Sg] at hk;rw [W9 h hk]
 | [_],_::_::_,h,_=>by simp at h
 | x::x2::l,y::m,h,hk=>by
  simp only [List.map_cons,List.cons.injEq] at h;cases m with
  | nil=>simp at h
  | cons y2 m=>
   simp only [Sg,Bool.and_eq_true] at hk;rw [W9 h.1 hk.1,W_ (l:=x2::l) (m:=y2::m) (by simpa using h.2) hk.2]
set_option maxHeartbeats 1000000 in
theorem VY {E:Env} {bN:List CT} {ops:List Oper} {B:Array Nat} {id:Nat} {s:bP} {κ:bP→Option R} {z:R} {m0 rid:Nat} {n0:Nat×Nat} {ro:Option Nat} {a:Act} {Q:Exit→Act→World→Prop} (hE:xm E bN) (bE:E.P.follows .mixedOrders=true) (h:R9 E bN ops B id s κ=some z)
  (ho:s.ok) (hm:m0≤s.N) (hn:Pz n0 s a) (hs:SR w F O μ (below s.N) s.st ft a) (hk:∀ s' a' w' F' O' bD bY,κ s'=some z→zh w F O μ m0 n0 s' a' w' F' O' bD bY→Q .normal a' w'):(Code.region rid ⟨ops⟩ true).wpIn (Wr ro) 0 E.P Q a w:=by
 unfold R9 at h;split at h
 case h_2=>cases h
 rename_i pre o1 o2 o3 hsp;have YI:=Qw hsp;split at h
 case h_2=>cases h
 rename_i t m k d1 d2 m3 x KX;split at h
 case h_2=>cases h
 rename_i afW;simp only [Bool.and_eq_true,Bool.not_eq_true'] at afW;obtain ⟨⟨aaZ,V4,UG⟩,⟨ahd,afX⟩,ahe,ahf⟩:=afW;have afX:=Nat.ne_of_beq_eq_false afX;split at h
 case h_2=>cases h
 rename_i kt et ht;split at h
 case h_2=>cases h
 rename_i Y4 hzt;have aeH:(o1.op=.mapEntry t m k∧o1.dst=some d1∧o1.guard=none)∧(o2.op=.extract (.tmp d1) 1∧o2.dst=some d2∧o2.guard=none)∧(∃ t',o3.op=.entryStore t' m3 (.tmp d2) x)∧o3.dst=none∧o3.guard=none:=by
  unfold afU at KX;split at KX
  ·rename_i ho1 YX ho3;split at KX
   ·rename_i e1 e2 e3;split at KX
    ·rename_i hg;simp only [Bool.and_eq_true] at hg;obtain ⟨g1,g2,g3,g4,g5⟩:=hg;have g4:=Nat.eq_of_beq_eq_true g4;have g5:=Nat.eq_of_beq_eq_true g5;subst g4 g5;simp only [Option.some.injEq,Prod.mk.injEq] at KX;obtain ⟨rfl,rfl,rfl,rfl,rfl,rfl,rfl⟩:=KX;have gd:∀ o:Oper,V0 o=true→o.guard=none:=fun o ho=>by
      unfold V0 at ho;cases e:o.guard with
      | none=>rfl
      | some _=>rw [e] at ho;cases ho
     exact ⟨⟨ho1,e1,gd _ g1⟩,⟨YX,e2,gd _ g2⟩,⟨_,ho3⟩,e3,gd _ g3⟩
    ·cases KX
   ·cases KX
  ·cases KX
 clear KX;obtain ⟨⟨ho1,aa_,YQ⟩,⟨YX,aba,V8⟩,⟨t',ho3⟩,abb,hg3⟩:=aeH;generalize hp:pre.length=p at *;have hlen:ops.length=p+3:=by rw [YI];simp [hp]
 have acz:=aaZ;simp only [th,Bool.and_eq_true] at acz;have hB:∀ i o,ops[i]?=some o→B.getD i 0 < 2 ^ i:=fun i o KQ=>by
  have:=(Ju acz.1 i o KQ).2.1;rwa [Nat.zero_add] at this
 have at1:ops[p]?=some o1:=by rw [YI,List.getElem?_append_right (by omega),hp];simp
 have at2:ops[p+1]?=some o2:=by rw [YI,List.getElem?_append_right (by omega),hp];simp
 have at3:ops[p+2]?=some o3:=by rw [YI,List.getElem?_append_right (by omega),hp];simp
 have ox:∀ j,j < p+2→bit B (p+2) j=true:=W7 UG;have afY:∀ j,j < p+3→inc B (p+2) j=false:=fun j hj=>by
  simp only [inc,Bool.and_eq_false_iff,Bool.not_eq_false'];by_cases e:j=p+2
  ·exact .inl (.inl (by rw [e];exact Nat.beq_refl _))
  ·exact .inl (.inr (ox j (by omega)))
 have afZ:∀ i,i < p→inc B i (p+2)=false:=fun i hi=>by
  simp only [inc,Bool.and_eq_false_iff,Bool.not_eq_false'];exact .inr (ox i (by omega))
 have aeu:Inv s ops [(p,[id]),(p+2,[id])] s []:=⟨ho,rfl,rfl,fun t=>rfl,fun id=>rfl,fun j e hj=>by cases hj⟩;obtain ⟨q,T,OU,E0,Ib,_,Vk,hTH,Qo⟩:=Un hE hB ht hzt afZ (q:=[]) h aeu (fun j e hj=>by cases hj) rfl (fun i o KQ=>by
  simp only [List.length_nil,Nat.zero_add];rw [YI,List.getElem?_append_left (List.getElem?_eq_some_iff.1 KQ).1];exact KQ) (by simpa using hp)
 simp only [List.length_nil,Nat.zero_add] at Qo;unfold afT at OU;split at OU
 case h_2=>cases OU
 rename_i b9 cs kt' et' hvm hvk ht2;rw [ht] at ht2;cases ht2;split at OU
 case h_2=>cases OU
 rename_i yz1 j kk bZ Tq hkg;have bZ:=Nat.eq_of_beq_eq_true bZ;subst bZ;rw [hzt] at Tq;cases Tq;split at OU
 case h_2=>cases OU
 rename_i i l tr Sw hl ahg;split at OU
 case h_2=>cases OU
 rename_i n aeI YP;have aeI:=Nat.eq_of_beq_eq_true aeI;subst aeI;split at OU
 case h_2=>cases OU
 rename_i OH v _ hdr;split at OU
 case h_2=>cases OU
 rename_i yz y0 hlz hlx;split at OU
 case h_2=>cases OU
 rename_i af0 yf0 hbz hby;obtain ⟨yzz,hyc⟩:∃ yc:C i,yc=af0:=⟨af0,rfl⟩;subst hyc;obtain ⟨y,hyc⟩:∃ yc:C i,yc=yf0:=⟨yf0,rfl⟩;subst hyc;have hyz:yz=Y4:=by
  simp only [ua] at hlz;split at hlz
  ·split at hlz
   ·exact (Option.some.inj hlz).symm
   ·cases hlz
  ·cases hlz
 subst hyz;obtain ⟨fs,DH,_,_⟩:=JB Sw;have L6:=JC Sw kk;have hza:zvA E.P et=some (cT yz):=by
  have:=(OI hzt T.H T.N).1;simpa only [TA.av] using this
 obtain ⟨_,ahh,_⟩:=iA hlz;obtain ⟨_,ahi,ahj⟩:=iA hlx;have hjl:(get j kk).length=n+1:=by
  have h1:=congrArg List.length (qZ j kk);have h2:=congrArg List.length OH;have h3:=congrArg List.length (qZ i y);have h4:=congrArg List.length (show get i y=get j kk++[y0] from ff hby);simp at h1 h2 h3 h4;omega
 have pk:∀ (yy:C i) (q0:cN),get i yy=get j kk++[q0]→dc (n+1) (get i yy)=(cT ⟨.st j,kk⟩,cT q0):=fun yy q0 e=>by
  rw [e,KY];simp only [dc,← hjl,List.take_left,List.drop_left]
 have hpz:=pk yzz yz (ff hbz);have hpy:=pk y y0 (ff hby);obtain ⟨lA,hlA⟩:∃ lA,lA=l.map fun x=>dc (n+1) (get i x):=⟨_,rfl⟩;obtain ⟨r,hr⟩:∃ r,r=l.findIdx? (gD i j (n+1) kk):=⟨_,rfl⟩;have hf:lI (cT ⟨.st j,kk⟩) lA 0=some r:=by
  have:=BG OH Sw kk l 0;rw [← hlA,← hr] at this;rw [this];cases r<;>simp
 have hka:∀ jj,r=some jj→(lA.getD jj (.top,.top)).1=cT ⟨.st j,kk⟩∧jj < l.length:=fun jj e=>by
  rw [hr] at e;obtain ⟨h1,h2,_⟩:=List.findIdx?_eq_some_iff_getElem.1 e;refine ⟨?_,h1⟩;have h3:=W_ (by rw [Xa OH,qZ]) h2;rw [hlA];have e2:((l.map fun x=>dc (n+1) (get i x)).getD jj (.top,.top)).1=.agg (((get i l[jj]).take (n+1)).map cT):=by
   simp [List.getD,h1,dc]
  rw [e2,KY,h3]
 obtain ⟨lp,hlp⟩:∃ lp:List (C i),lp=afV l yzz r:=⟨_,rfl⟩;have af1:Laid n yz l lp:=by
  rw [hlp];cases r with
  | some _=>exact .inl rfl
  | none=>
   refine .inr ⟨yzz,rfl,?_⟩;rw [show get i yzz=get j kk++[yz] from ff hbz,← hjl,List.drop_left]
 have KX:Gp lA (cT ⟨.st j,kk⟩) (cT yz) r=lp.map fun x=>dc (n+1) (get i x):=by
  rw [hlp,hlA];cases r<;>simp [Gp,afV,hpz]
 have af2:(Gp lA (cT ⟨.st j,kk⟩) (cT yz) r).set (DI lA r) (((Gp lA (cT ⟨.st j,kk⟩) (cT yz) r).getD (DI lA r) (.top,.top)).1,cT y0)=(pA (gD i j (n+1) kk) l y).map fun x=>dc (n+1) (get i x):=by
  rw [KZ hpy,← hr,← hlA];cases r with
  | none=>simp [Gp,DI,p8,List.getD]
  | some jj=>simp only [Gp,DI,p8,(hka jj rfl).1]
 obtain ⟨acS,adl⟩:∃ lf,lf=(pA (gD i j (n+1) kk) l y).map fun x=>dc (n+1) (get i x):=⟨_,rfl⟩;rw [← adl] at af2;have hsH:s.st.H tr=some (.map lA):=by
  have h9:s.st.H tr=some (.map (l.map fun x=>dc (JF i) (get i x))):=dG (by rw [← hTH];exact hl);rw [h9,YP,hlA]
 have V1:∀ (D:Nat→Bool) (H0:Hp) (b9:Nat),y6 D H0 q b9=H0 b9:=fun D H0 b9=>Sf Vk;have adm:Inv s ops [(p+2,[tr])] T q:=⟨E0.ok,E0.nt,E0.N,E0.tm,E0.H,fun j e hj=>by
  obtain ⟨o',m1,m2,_⟩:=E0.Ax j e hj;exact ⟨o',m1,m2,fun b9 bZ=>by rw [Vk j e hj] at bZ;cases bZ⟩⟩
 let YJ:RE:=⟨none,.lit undef,[(tr,some (.map acS))],T.N,0⟩
 let rs:AV→AV→List RE:=fun v1 v2=>YJ::⟨some d2,v2,[],T.N,0⟩::⟨some d1,v1,[],T.N,0⟩::q
 have af3:∀ v1 v2,(rs v1 v2).length=p+3:=fun v1 v2=>by simp [rs,Ib]
 have wfr:∀ v1 v2,Y1 s.N (rs v1 v2) T.N:=fun v1 v2=>⟨⟨⟨E0.N,rfl⟩,rfl⟩,rfl⟩;have af4:∀ v1 v2 i',i' < p→eU (rs v1 v2) i'=eU q i':=fun v1 v2 i' hi=>by
  simp only [rs];rw [xO (by simp;omega),xO (by simp;omega),xO (by omega)]
 have aeJ:∀ v1 v2,eU (rs v1 v2) p=some ⟨some d1,v1,[],T.N,0⟩:=fun v1 v2=>by
  simp only [rs];rw [xO (by simp;omega),xO (by simp;omega)];simp [eU,Ib]
 have af5:∀ v1 v2,eU (rs v1 v2) (p+1)=some ⟨some d2,v2,[],T.N,0⟩:=fun v1 v2=>by
  simp only [rs];rw [xO (by simp;omega)];simp [eU,Ib]
 have af6:∀ v1 v2,eU (rs v1 v2) (p+2)=some YJ:=fun v1 v2=>by
  simp [rs,eU,Ib]
 have aeK:∀ v1 v2 (D:Nat→Bool) (H0:Hp) b9,D (p+2)=false→y6 D H0 (rs v1 v2) b9=H0 b9:=fun v1 v2 D H0 b9 hD=>by
  simp only [rs,y6,List.length_cons,Ib,hD,Bool.false_and,y5,List.any_nil,Bool.and_false];exact V1 _ _ _
 have acT:∀ v1 v2 q',Yz q' q→Yz q' (rs v1 v2):=fun v1 v2 q' ⟨u,e⟩=>⟨YJ::⟨some d2,v2,[],T.N,0⟩::⟨some d1,v1,[],T.N,0⟩::u,by simp only [rs,e,List.cons_append]⟩;have af7:∀ j',xn [(p+2,[tr])] j'=if j'=p+2 then [tr] else []:=fun j'=>by
  simp only [xn];by_cases e:j'=p+2
  ·subst e;simp
  ·rw [if_neg e]
   first
    | rw [cd e]
    | rw [cd (fun h=>e h.symm)]
 have wtd:∀ {o:Oper} {a':Act},o.guard=none→Region.wanted o (yielded ⟨ops⟩ a'.tmps)=true:=fun hg=>by unfold Region.wanted;rw [hg]
 let Tf:bP:=⟨T.nt,T.N,(d1,.top)::(d2,.top)::T.tm,cD T.H [(tr,some (.dmap i (pA (gD i j (n+1) kk) l y)))]⟩
 have OU:κ Tf=some z:=OU;have jO:Sub T.H Tf.H T.N:=CI hl rfl rfl;have af8:Tf.ok:=by
  refine ⟨fun t=>?_,fun id l' Cs=>?_⟩
  ·show (look ((d1,.top)::(d2,.top)::T.tm) t).wf Tf.H T.N;simp only [look];cases Nat.beq t d1 with
   | true=>simp only [TA.wf]
   | false=>
    cases Nat.beq t d2 with
    | true=>simp only [TA.wf]
    | false=>exact (jR jO (Nat.le_refl _) _ (E0.ok.tm t)).2
  ·have Cs:aT (cD T.H [(tr,some (.dmap i (pA (gD i j (n+1) kk) l y)))]) id=some l':=Cs;rw [qc] at Cs;split at Cs
   ·cases Cs;simp only [aY.refs,iz]
   ·exact (iK jO (Nat.le_refl _) _ (E0.ok.H id l' Cs)).2
 have hsN:s.N≤T.N:=by
  have key:∀ {q:List RE} {N:Nat},Y1 s.N q N→s.N≤N:=by
   intro q
   induction q with
   | nil=>intro N h;exact Nat.le_of_eq h.symm
   | cons x q ih=>intro N h;have:=ih h.1;have:=h.2;omega
  exact key E0.N
 have ahk:∀ v1 v2 (H0:Hp),(∀ b9,b9≠tr→H0 b9=s.st.H b9)→∀ w' F' O' bD bY a',a'.defers=a.defers→SR w' F' O' bD (below T.N) ⟨s.nt,T.N,Aw (fun _=>true) s.st.tm (rs v1 v2),y6 (fun _=>true) H0 (rs v1 v2)⟩ bY a'→Fr w F O μ (below m0) w' F' O' bD→Q .normal a' w':=by
  intro v1 v2 H0 hH0 w' F' O' bD bY a' tq gf y_;refine hk Tf a' w' F' O' bD bY OU ⟨af8,Nat.le_trans hm hsN,⟨E0.nt.trans hn.1,by rw [tq];exact hn.2⟩,⟨?_,?_,fun t=>?_,gf.df⟩,y_⟩
  ·have e:(y6 (fun _=>true) H0 (rs v1 v2))=xk Tf.H:=by
    funext id;simp only [rs,y6,Bool.true_and,y5,List.any_cons,List.any_nil,Bool.or_false,YJ];by_cases e:id=tr
    ·subst e;simp only [Nat.beq_refl,Hp.dh,if_true];rw [Kz (H:=Tf.H) (show aT Tf.H id=some (.dmap i (pA (gD i j (n+1) kk) l y)) by simp only [Tf];rw [qc,if_pos rfl]) rfl];simp only [aY.dC,YP,adl]
    ·rw [cd (fun h=>e h.symm)];simp only;rw [V1,hH0 id e];have e1:aT Tf.H id=aT T.H id:=by simp only [Tf];rw [qc,if_neg e]
     show xk s.H id=xk Tf.H id;rw [← hTH];unfold xk;rw [e1];cases hb:aT T.H id with
     | none=>rfl
     | some b=>
      simp only [Option.bind_some];cases hv:b.Uv with
      | false=>rfl
      | true=>
       simp only;rw [qL jO (E0.ok.H id _ hb)]
   have:=gf.hr;simp only [e] at this;exact this
  ·exact gf.nt.trans E0.nt.symm
  ·have:=gf.tm t;simp only [rs,Aw,Bool.true_and,YJ,OV] at this;show VR w' F' bD _ ((look ((d1,.top)::(d2,.top)::T.tm) t).av Tf.H) _;simp only [look];cases e1:Nat.beq t d1 with
   | true=>simp only [TA.av];exact .top _
   | false=>
    cases e2:Nat.beq t d2 with
    | true=>simp only [TA.av];exact .top _
    | false=>
     rw [cd (fun h=>Nat.ne_of_beq_eq_false e2 h.symm),cd (fun h=>Nat.ne_of_beq_eq_false e1 h.symm)] at this;simp only at this;rw [← E0.tm t] at this;simp only;rw [(jR jO (Nat.le_refl _) _ (E0.ok.tm t)).1];exact this
 have Xb:∀ (s':fU) (q':List RE) (e:RE) (o:Oper) (Z:fU→Prop),s'.nt=s.nt→e.d=o.dst→(∀ b9,b9∈e.up.map (·.1)→b9∈xn [(p+2,[tr])] q'.length)→Z ⟨s.nt,0,fun _=>.top,fun _=>none⟩→adb ops B [(p+2,[tr])] s' q' e o Z:=fun s' q' e o Z h0 h1 h2 h3=>
  ⟨h1,h2,⟨s.nt,0,fun _=>.top,fun _=>none⟩,h0.symm,fun _=>.inl rfl,fun _=>.inl rfl,h3⟩
 let X1:Nat→Bool:=fun i'=>Nat.beq i' p||(Nat.beq i' (p+1)||Nat.beq i' (p+2))
 let Φ1:(Nat→Bool)→Prop:=fun D=>D p=false∧D (p+1)=false∧D (p+2)=false
 have at0:∀ i' o,ops[i']?=some o→i' < p∧pre[i']?=some o∨i'=p∧o=o1∨i'=p+1∧o=o2∨i'=p+2∧o=o3:=fun i' o KQ=>by
  have dT:i' < ops.length:=(List.getElem?_eq_some_iff.1 KQ).1;rcases Nat.lt_or_ge i' p with e | e
  ·rw [YI,List.getElem?_append_left (by omega)] at KQ;exact .inl ⟨e,KQ⟩
  ·rcases (show i'=p∨i'=p+1∨i'=p+2 by omega) with e | e | e
   ·subst e;rw [at1] at KQ;exact .inr (.inl ⟨rfl,(Option.some.inj KQ).symm⟩)
   ·subst e;rw [at2] at KQ;exact .inr (.inr (.inl ⟨rfl,(Option.some.inj KQ).symm⟩))
   ·subst e;rw [at3] at KQ;exact .inr (.inr (.inr ⟨rfl,(Option.some.inj KQ).symm⟩))
 have emp:jI (Array.replicate ops.length false)=fun _=>false:=by
  funext j;simp only [jI];by_cases h:j < ops.length<;>simp [h]
 have eT:∀ q:List RE,Aw (fun _=>false) s.st.tm q=s.st.tm:=fun q=>by
  induction q with
  | nil=>rfl
  | cons x q ih=>funext t;exact congrFun ih t
 have eH:∀ q:List RE,y6 (fun _=>false) s.st.H q=s.st.H:=fun q=>by
  induction q with
  | nil=>rfl
  | cons x q ih=>funext t;exact congrFun ih t
 have eK:∀ q:List RE,kD (fun _=>false) s.N q=below s.N:=fun q=>by
  induction q with
  | nil=>rfl
  | cons x q ih=>funext t;simp [kD,ih]
 refine wpIn_region_any bE ?_;refine Ou (s:=s.st) (rs:=rs .top .top) (N:=T.N) (m0:=m0) (X:=X1) (Φ:=Φ1) (Z:=fun i' M=>i'=p→M=(T.mask ops B [(p+2,[tr])] p).st) (w0:=w) (F0:=F) (O0:=O) (μ0:=μ) (ds0:=a.defers) (ro:=ro) aaZ (wfr _ _) hm (by rw [af3,hlen]) ?_ ?_ ?_ ?_ _ _ _ _ F O μ ft (by simp) (by
   unfold unl;simp [List.countP_replicate]) (by
   rw [show (⟨ops⟩:Array Oper).size=ops.length from rfl,emp];intro i hi;cases hi) ?_ (Fr.drew _) rfl (by
   rw [show (⟨ops⟩:Array Oper).size=ops.length from rfl,emp];exact ⟨rfl,rfl,rfl⟩)
 ·rintro D i' ⟨h1,h2,h3⟩ hX
  simp only [X1,Bool.or_eq_false_iff] at hX;have e1:=Nat.ne_of_beq_eq_false hX.1;have e2:=Nat.ne_of_beq_eq_false hX.2.1;have e3:=Nat.ne_of_beq_eq_false hX.2.2;simp only [Φ1,more];rw [if_neg (fun h=>e1 h.symm),if_neg (fun h=>e2 h.symm),if_neg (fun h=>e3 h.symm)];exact ⟨h1,h2,h3⟩
 ·intro i' o KQ;rcases at0 i' o KQ with ⟨e,UK⟩ | ⟨rfl,rfl⟩ | ⟨rfl,rfl⟩ | ⟨rfl,rfl⟩
  ·obtain ⟨e',q',m1,m2,m3,m4⟩:=Qo i' o UK;exact ⟨e',q',by rw [af4 _ _ _ e];exact m1,m2,acT _ _ _ m3,.inl ⟨by simp only [X1];rw [cd (by omega),cd (by omega),cd (by omega)];rfl,m4.one⟩⟩
  ·refine ⟨_,q,aeJ _ _,Ib,acT _ _ _ ⟨[],rfl⟩,.inr ⟨by simp [X1],aa_.symm,(fun b9 bZ=>by cases bZ),_,E0.nt,?_,?_,fun _=>rfl⟩⟩
   ·have:=adm.WW (B:=B) hB;rw [Ib] at this;rw [Ib];exact this
   ·have:=adm.WX (B:=B) hB;rw [Ib] at this;rw [Ib];exact this
  ·exact ⟨_,⟨some d1,.top,[],T.N,0⟩::q,af5 _ _,by simp [Ib],⟨[YJ,⟨some d2,.top,[],T.N,0⟩],rfl⟩,.inr ⟨by simp [X1],Xb _ _ _ _ _ rfl aba.symm (fun b9 bZ=>by cases bZ) fun h=>by omega⟩⟩
  ·refine ⟨_,⟨some d2,.top,[],T.N,0⟩::⟨some d1,.top,[],T.N,0⟩::q,af6 _ _,by simp [Ib],⟨[YJ],rfl⟩,.inr ⟨by simp [X1],Xb _ _ _ _ _ rfl abb.symm (fun b9 bZ=>?_) fun h=>by omega⟩⟩;simp only [YJ,List.map_cons,List.map_nil,List.mem_singleton] at bZ;rw [af7,if_pos (by simp [Ib]),bZ];simp
 ·
  intro i' o M KQ hX hZ fuel listed a1 w1 F1 O1 KB Ww fT hun OS hDi hBi YA Qp gf y_ tq;rcases at0 i' o KQ with ⟨e,_⟩ | ⟨rfl,rfl⟩ | ⟨rfl,rfl⟩ | ⟨rfl,rfl⟩
  ·simp only [X1] at hX;rw [cd (by omega),cd (by omega),cd (by omega)] at hX;cases hX
  ·have hZ:=hZ rfl;subst hZ;unfold wpOpIn;have ahl:(⟨ops⟩:Array Oper)[i']?=some o:=by simpa using KQ
   rw [ahl];simp only [wtd YQ,if_true];refine T5 (fun c hc=>by rw [ho1] at hc;cases hc) ?_;have hxm:ee (T.mask ops B [(i'+2,[tr])] i').st m (.mp tr):=fun {w F O μ K ft act} hs=>by have:=bX hvm hs;simpa only [TA.av] using this
   have hxk:ee (T.mask ops B [(i'+2,[tr])] i').st k (cT ⟨.st j,kk⟩):=fun {w F O μ K ft act} hs=>Mr hkg _ (hvk▸gC _ k hs);have hJH:(Js s.st (rs .top .top) (jI listed)).H tr=some (.map lA):=by
    show y6 (jI listed) s.st.H (rs .top .top) tr=_;rw [aeK _ _ _ _ _ YA.2.2,hsH]
   obtain ⟨v0,st,w2,O2,Lt,lG,hhr,aeL⟩:=YK ho1 (hxm.more Qp) hJH (hxk.more Qp) hza (vg ahh) L6.2.1 ht DH L6.1 hf (fun jj e=>(hka jj e).1) gf;unfold Oper.wp;rw [lG,Oper.upon_value,aa_]
   let s2:fU:=⟨s.nt,s.N,s.st.tm,s.st.H.dh [(tr,some (.HE (lp.map fun x=>dc (JF i) (get i x)) (DI lA r) st))]⟩
   let v1:AV:=.nO [.top,.int .i64 (st:Nat)]
   let v2:AV:=.int .i64 (st:Nat)
   have hil:i' < listed.size:=by rw [fT,hlen];omega
   have hD':jI (listed.setIfInBounds i' true)=more (jI listed) i':=Jv hil;have hDo:∀ q',q'≠i'→jI (listed.setIfInBounds i' true) q'=jI listed q':=fun q' hq=>by rw [hD'];simp only [more,if_neg hq]
   have af9:jI (listed.setIfInBounds i' true) i'=true:=by rw [hD'];simp [more]
   have adn:s2.H tr=some (.HE (lp.map fun x=>dc (JF i) (get i x)) (DI lA r) st):=by simp [s2,Hp.dh]
   have af_:∀ q',q'≠tr→s2.H q'=s.st.H q':=fun q' hq=>by simp only [s2,Hp.dh,if_neg hq]
   have aga:d1 < a1.tmps.size:=by rw [gf.nt];exact Nat.le_of_ble_eq_true ahe
   have eKK:kD (jI (listed.setIfInBounds i' true)) s2.N (rs v1 v2)=kD (jI listed) s.N (rs .top .top):=by
    funext id;rw [hD'];refine propext ((Mp (aeJ v1 v2) id).trans ⟨fun h=>?_,fun h=>.inl h⟩);rcases h with h | ⟨h1,h2⟩
    ·exact h
    ·simp only at h1 h2;omega
   refine Ou (s:=s2) (rs:=rs v1 v2) (N:=T.N) (m0:=m0) (X:=fun q'=>bit B i' q'||Nat.beq q' i') (Φ:=fun D=>∀ q',jI (listed.setIfInBounds i' true) q'=true→D q'=true) (Z:=fun _ _=>True) (w0:=w) (F0:=F) (O0:=O) (μ0:=μ) (ds0:=a.defers) (ro:=ro)
    aaZ (wfr _ _) hm (by rw [af3,hlen]) ?_ ?_ ?_ ?_ fuel _ _ w2 F1 O2 KB Lt (by simp [fT]) (by have:=R3 hil hDi;omega) ?_ ?_ (y_.trans (aeL.OR fun id (bZ:id < m0)=>VQ (show id < s.N by omega))) tq (fun _ h=>h)
   ·intro D q' hD _ q2 hq2;simp only [more];split
    ·rfl
    ·exact hD q2 hq2
   ·intro q' o' aeM;rcases at0 q' o' aeM with ⟨e,UK⟩ | ⟨rfl,rfl⟩ | ⟨rfl,rfl⟩ | ⟨rfl,rfl⟩
    ·obtain ⟨e',q2,m1,m2,m3,m4⟩:=Qo q' o' UK;refine ⟨e',q2,by rw [af4 _ _ _ e];exact m1,m2,acT _ _ _ m3,?_⟩;cases hb:bit B i' q' with
     | true=>exact .inr ⟨by simp,Xb _ _ _ _ _ rfl m4.one.d (fun b9 bZ=>by rw [m4.up] at bZ;cases bZ) trivial⟩
     | false=>
      refine .inl ⟨by simp only [Bool.false_or];exact cd (by omega),?_⟩;have ahm:Laid n yz l lp:=af1;refine m4.two ?_ i n l lp (DI lA r) st (by rw [← hTH];exact hl) YP ahm;rw [m2];simp only [inc,cd (show ¬ q'=i' by omega),hb,Bool.not_false,Bool.true_and,Bool.and_true];cases UG:bit B q' i' with
      | false=>rfl
      | true=>have:=CD (hB q' o' aeM) UG;omega
    ·exact ⟨_,q,aeJ _ _,Ib,acT _ _ _ ⟨[],rfl⟩,.inr ⟨by simp,Xb _ _ _ _ _ rfl aa_.symm (fun b9 bZ=>by cases bZ) trivial⟩⟩
    ·refine ⟨_,⟨some d1,v1,[],T.N,0⟩::q,af5 _ _,by simp [Ib],⟨[YJ,⟨some d2,v2,[],T.N,0⟩],rfl⟩,.inl ⟨?_,aba.symm,?_,(fun b9 bZ=>by cases bZ),⟨s.nt,0,fun t=>if t=d1 then v1 else .top,fun _=>none⟩,rfl,fun t=>?_,fun _=>.inl rfl,.inr ⟨fun _=>wtd V8,v2,[],?_,ik.refl _,(fun b9 bZ=>by cases bZ),(fun b9 b' bZ=>by cases bZ),(fun c hc=>by rw [YX] at hc;cases hc)⟩⟩⟩
     ·simp only [Bool.or_eq_false_iff];refine ⟨?_,cd (by omega)⟩;cases hb:bit B i' (i'+1) with
      | false=>rfl
      | true=>have:=CD (hB i' _ at1) hb;omega
     ·rw [aba];exact ahf
     ·by_cases e:t=d1
      ·refine .inr ⟨?_,?_⟩
       ·rw [e];simp only [List.length_cons,Ib];exact ahd
       ·simp only [e,if_true,Aw,List.length_cons,Ib,V4,OV,Nat.beq_refl,Bool.and_self]
      ·exact .inl (by simp only [if_neg e])
     ·have m9:=Nx (P:=E.P) (s:=⟨s.nt,0,fun t=>if t=d1 then v1 else .top,fun _=>none⟩) (cs:=[.top,.int .i64 (st:Nat)]) YX (fun {w F O μ K ft act} hs=>by
       have:=hs.tm d1;simp only [if_true] at this;exact this) (by simp)
      exact m9
    ·let M2:fU:=⟨s.nt,0,fun t=>if t=d2 then v2 else if t=d1 then .top else (look T.tm t).av T.H,fun b9=>if b9=tr then some (.HE (lp.map fun x=>dc (JF i) (get i x)) (DI lA r) st) else none⟩
     have hv2:∀ (xx:Operand),ee M2 xx ((bP.val ⟨T.nt,T.N,(d1,.top)::(d2,.top)::T.tm,T.H⟩ xx).av T.H):=by
      intro xx w F O μ K ft act hs;cases xx with
      | tmp q2=>
       have:=hs.tm q2;simp only [bP.val,look];cases e1:Nat.beq q2 d1 with
       | true=>simp only [TA.av];exact .top _
       | false=>
        cases e2:Nat.beq q2 d2 with
        | true=>simp only [TA.av];exact .top _
        | false=>
         simp only [M2,if_neg (Nat.ne_of_beq_eq_false e1),if_neg (Nat.ne_of_beq_eq_false e2)] at this;exact this
      | const u=>simp only [bP.val,NL];exact Kw u
      | func f=>simp only [bP.val,TA.av,er];exact .fn _ [] [] [] [] rfl rfl (fun i h=>by cases h) (fun i h=>by cases h)
      | global g=>simp only [bP.val,TA.av];exact .top _
     have m9:=PD (P:=E.P) (s:=M2) (va:=cT y0) ho3 (id:=tr) (j:=DI lA r) (st:=st) (l:=lp.map fun x=>dc (JF i) (get i x))
      (fun {w F O μ K ft act} hs=>by have:=hv2 m3 hs;rw [ahg] at this;simpa only [TA.av] using this) (by simp only [M2,if_true]) (fun {w F O μ K ft act} hs=>by
       have:=hs.tm d2;simp only [M2,if_true] at this;exact this) (fun {w F O μ K ft act} hs=>ahj T.H (hv2 x hs)) (vg ahi)
     have UR:(lp.map fun x=>dc (JF i) (get i x)).set (DI lA r) (((lp.map fun x=>dc (JF i) (get i x)).getD (DI lA r) (.top,.top)).1,cT y0)=acS:=by
      rw [YP];show (lp.map fun x=>dc (n+1) (get i x)).set (DI lA r) (((lp.map fun x=>dc (n+1) (get i x)).getD (DI lA r) (.top,.top)).1,cT y0)=acS;rw [← KX];exact af2
     rw [UR] at m9;refine ⟨_,⟨some d2,v2,[],T.N,0⟩::⟨some d1,v1,[],T.N,0⟩::q,af6 _ _,by simp [Ib],⟨[YJ],rfl⟩,.inl ⟨?_,abb.symm,by rw [abb],fun b9 bZ=>?_,M2,rfl,fun t=>?_,fun b9=>?_,.inr ⟨fun _=>wtd hg3,_,_,m9,ik.refl _,(fun b9 bZ=>bZ),fun b9 b' bZ cl=>?_,(fun c hc=>by rw [ho3] at hc;cases hc)⟩⟩⟩
     ·simp only [Bool.or_eq_false_iff];refine ⟨?_,cd (by omega)⟩;cases hb:bit B i' (i'+2) with
      | false=>rfl
      | true=>have:=CD (hB i' _ at1) hb;omega
     ·simp only [YJ,List.map_cons,List.map_nil,List.mem_singleton] at bZ;rw [af7,if_pos (by simp [Ib]),bZ];simp
     ·have hh:H4 B (i'+2) t 0 ops=false:=Qy fun q2 hq2=>by rw [Nat.zero_add];exact afY q2 (by omega)
      have abc:((⟨some d2,v2,[],T.N,0⟩:RE)::⟨some d1,v1,[],T.N,0⟩::q).length=i'+2:=by simp [Ib]
      rw [abc];by_cases e2:t=d2
      ·refine .inr ⟨hh,?_⟩;simp only [M2,e2,if_true,Aw,List.length_cons,Ib,ox (i'+1) (by omega),OV,Nat.beq_refl,Bool.and_self]
      ·by_cases e1:t=d1
       ·exact .inl (by simp only [M2,if_neg e2,if_pos e1])
       ·refine .inr ⟨hh,?_⟩;simp only [M2,if_neg e2,if_neg e1,Aw,OV,cd (fun h=>e2 h.symm),cd (fun h=>e1 h.symm),Bool.and_false];rw [E0.tm t];refine uN fun j2 e' TF _=>?_;rw [ox j2 (by have:=jH TF;omega)]
     ·by_cases e:b9=tr
      ·refine .inr ⟨?_,?_⟩
       ·have abc:((⟨some d2,v2,[],T.N,0⟩:RE)::⟨some d1,v1,[],T.N,0⟩::q).length=i'+2:=by simp [Ib]
        rw [abc];simp only [Gm,afY (i'+2) (by omega),Bool.and_false,Bool.or_false]
       ·simp only [M2,if_pos e,y6,y5,List.any_nil,Bool.and_false];rw [V1,e,adn]
      ·exact .inl (by simp only [M2,if_neg e])
     ·simp only [YJ,List.map_cons,List.map_nil,List.mem_singleton] at bZ;subst bZ;simp only [YJ,Hp.dh,if_true,Option.some.injEq] at cl;exact ⟨.map acS,by simp only [Hp.dh,if_true],by rw [cl];exact eQ.refl _⟩
   ·intro q' o' M' aeM hX2 _ ahv agn a2 w3 F3 O3 μ3 ft3 _ _ _ agb ahD agc;exfalso;simp only [Bool.or_eq_true] at hX2;rcases hX2 with hX2 | hX2
    ·have h1:=hBi q' hX2;have h2:=agc q' (by rw [hD'];simp only [more];split<;>first | rfl | exact h1);rw [agb] at h2;cases h2
    ·have e:=Nat.eq_of_beq_eq_true hX2;have h2:=agc q' (by rw [e];exact af9);rw [agb] at h2;cases h2
   ·intro w' F' O' bD bY a' _ aev ahn aho;exact ahk v1 v2 s2.H af_ w' F' O' bD bY a' aev ahn aho
   ·rw [hD'];intro q1 hq1 q2 hb;simp only [more] at hq1 ⊢;split
    ·rfl
    ·split at hq1
     ·rename_i e;subst e;exact hBi q2 hb
     ·exact OS q1 hq1 q2 hb
   ·have hD2:jI (listed.setIfInBounds i' true) (i'+2)=false:=by rw [hDo _ (by omega)];exact YA.2.2
    have hD1:jI (listed.setIfInBounds i' true) (i'+1)=false:=by rw [hDo _ (by omega)];exact YA.2.1
    rw [eKK];refine ⟨?_,?_,fun t=>?_,(gf.df.step aeL:wq w2 F1 O2 a1.defers)⟩
    ·have e:(Js s.st (rs .top .top) (jI listed)).H.dh [(tr,some (.HE (Gp lA (cT ⟨.st j,kk⟩) (cT yz) r) (DI lA r) st))]=(Js s2 (rs v1 v2) (jI (listed.setIfInBounds i' true))).H:=by
      funext q';show _=y6 (jI (listed.setIfInBounds i' true)) s2.H (rs v1 v2) q';rw [aeK _ _ _ _ _ hD2];by_cases e:q'=tr
      ·subst e;rw [adn,YP];simp only [Hp.dh,if_true];rw [KX]
      ·rw [af_ q' e];simp only [Hp.dh,if_neg e];show y6 (jI listed) s.st.H (rs .top .top) q'=_;rw [aeK _ _ _ _ _ YA.2.2]
     rw [e] at hhr;exact hhr
    ·show (a1.put (some d1) _).tmps.size=s.nt;have:(a1.put (some d1) (.tuple #[v0,goInt (st:Nat)])).tmps.size=a1.tmps.size:=by simp [Act.put]
     rw [this];exact gf.nt
    ·show VR w2 F1 KB _ (Aw (jI (listed.setIfInBounds i' true)) s2.tm (rs v1 v2) t) _;simp only [rs,Aw,List.length_cons,Ib,hD2,hD1,af9,Bool.false_and,Bool.true_and,OV];have hold:=(gf.tm t).step gf.hr aeL fun _ h=>h;have hold:VR w2 F1 KB (kD (jI listed) s.N (rs .top .top)) (Aw (jI listed) s.st.tm (rs .top .top) t) (a1.tmps.getD t undef):=hold;simp only [rs,Aw,List.length_cons,Ib,YA.1,YA.2.1,YA.2.2,Bool.false_and] at hold;cases e:Nat.beq d1 t with
     | true=>
      have e:=Nat.eq_of_beq_eq_true e;subst e;have:(a1.put (some d1) (.tuple #[v0,goInt (st:Nat)])).tmps.getD d1 undef=.tuple #[v0,goInt (st:Nat)]:=by simp [Act.put,aga]
      rw [this];exact .Lr (.cons (.top _) (.cons (.int _ _) .nil))
     | false=>
      have qJ:=Nat.ne_of_beq_eq_false e;have:(a1.put (some d1) (.tuple #[v0,goInt (st:Nat)])).tmps.getD t undef=a1.tmps.getD t undef:=by simp [Act.put,Array.getElem?_setIfInBounds_ne qJ]
      rw [this];have e3:Aw (jI (listed.setIfInBounds i' true)) s2.tm q t=Aw (jI listed) s.st.tm q t:=uN fun j2 e' TF _=>hDo j2 (by have:=jH TF;omega);simp only;rw [e3];exact hold
  ·exfalso;have h1:=hBi p V4;rw [YA.1] at h1;cases h1
  ·exfalso;have h1:=hBi p (ox p (by omega));rw [YA.1] at h1;cases h1
 ·rintro w' F' O' bD bY a' ⟨D,YA,hD⟩
  have:=hD p (by omega);rw [YA.1] at this;cases this
 ·rw [show (⟨ops⟩:Array Oper).size=ops.length from rfl,emp];have:Js s.st (rs .top .top) (fun _=>false)=s.st:=by simp only [Js,eT,eH]
  rw [this];have e:kD (fun _=>false) s.st.N (rs .top .top)=below s.N:=eK _;rw [e];exact { hr:=hs.hr.drew _,nt:=hs.nt,tm:=fun t=>(hs.tm t).drew _,df:=hs.df.same fun _ _=>rfl }
end Go.Proofs.YtjkbbdldmdajkaaGreatDoor.c_
