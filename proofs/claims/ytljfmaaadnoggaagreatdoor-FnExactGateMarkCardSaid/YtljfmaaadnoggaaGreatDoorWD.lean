/- A region whose order Go leaves open, at whose end an entry of a map is laid and stored (m[k] += v). No condition. -/
import Derived.Test.YtljfmaaadnoggaaGreatDoorVX
import Derived.Test.YtljfmaaadnoggaaGreatDoorWE
set_option linter.unusedSimpArgs false
set_option linter.unusedVariables false
namespace Go.Proofs.YtljfmaaadnoggaaGreatDoor.cU
open Go Go.RowKit
variable {w w' vP:World} {F F' Am O O' ux:Nat→Prop} {μ bB jV:Nat→Nat} {K K' DQ:Nat→Prop} {ft b7:Nat→Nat→Prop} {P:Program} {R:Type}
def agG (o:Oper):Bool:=match o.op with
 | .lookup _ _ _ _=>true
 | _=>false
def Vu (o:Oper):Bool:=match o.guard with
 | none=>true
 | some _=>false
def lkE (E:Env) (T:bK) (id:Nat) (t0:TypeId) (o:Oper):Option cE:=match o.op with
 | .lookup t x k false=>match T.val x,T.val k,E.P.underlying t with
  | .mp b9,.agg cs,some (.map kt et)=>match Nat.beq b9 id&&Nat.beq t t0,zvT E.P et,X0 E kt cs with
   | true,some (.d yz),some ⟨j,kk⟩=>match TO E.P kt j,aR T.H id with
    | true,some (.dmap i l)=>match KR i with
     | 0=>none
     | n+1=>match decEq ((Ag i).take (n+1)) (Ag j),(Ag i).drop (n+1) with
      | .isTrue _,[v]=>match sv v (.d yz) with
       | some ⟨v',z⟩=>match decEq v' v with
        | .isTrue e=>some ⟨v,l8 (fR i j (n+1) kk) (AD i (n+1) v) (e▸z) l⟩
        | .isFalse _=>none
       | none=>none
      | _,_=>none
    | _,_=>none
   | _,_,_=>none
  | _,_,_=>none
 | _=>none
def N5 (E:Env) (bH:List CT) (ops:List Oper) (B:Array Nat) (p id:Nat) (t0:TypeId):List Oper→Nat→bK→(bK→Option R)→Option R
 | [],_,T,κ=>κ T
 | o::rest,i,T,κ=>match nU T o.dst&&Vu o with
  | true=>match agG o with
   | true=>match lkE E (T.mask ops B [(p+2,[id])] i) id t0 o with
    | some y=>N5 E bH ops B p id t0 rest (i+1) (T.put o.dst (.d y)) κ
    | none=>none
   | false=>Ja E bH ops B [(p,[id]),(p+2,[id])] o i T true (fun T=>N5 E bH ops B p id t0 rest (i+1) T κ)
  | false=>none
def ae0 (E:Env) (ops:List Oper) (B:Array Nat) (p id:Nat) (t:TypeId) (m k m3 x:Operand) (d1 d2:Nat) (T:bK) (κ:bK→Option R):Option R:=
 match (T.mask ops B [(p+2,[id])] p).val m,(T.mask ops B [(p+2,[id])] p).val k,E.P.underlying t with
 | .mp b9,.agg cs,some (.map kt et)=>match Nat.beq b9 id,zvT E.P et,X0 E kt cs with
  | true,some (.d Yq),some ⟨j,kk⟩=>match TO E.P kt j,aR T.H id,bK.val ⟨T.nt,T.N,(d1,.top)::(d2,.top)::T.tm,T.H⟩ m3 with
   | true,some (.dmap i l),.mp rS=>match Nat.beq rS id,KR i with
    | true,n+1=>match decEq ((Ag i).take (n+1)) (Ag j),(Ag i).drop (n+1) with
     | .isTrue _,[v]=>match sv v (.d Yq),sv v (bK.val ⟨T.nt,T.N,(d1,.top)::(d2,.top)::T.tm,T.H⟩ x) with
      | some yz,some y0=>match LY (.st i) (get j kk++[yz]),LY (.st i) (get j kk++[y0]) with
       | some _,some y=>κ ⟨T.nt,T.N,(d1,.top)::(d2,.top)::T.tm,cz T.H [(id,some (.dmap i (nV (fR i j (n+1) kk) l y)))]⟩
       | _,_=>none
      | _,_=>none
     | _,_=>none
    | _,_=>none
   | _,_,_=>none
  | _,_,_=>none
 | _,_,_=>none
def NU:List Oper→Option (List Oper×Oper×Oper×Oper)
 | []=>none
 | [_]=>none
 | [_,_]=>none
 | o1::o2::o3::r=>match r with
  | []=>match o1.op with
   | .mapEntry _ _ _=>some ([],o1,o2,o3)
   | _=>none
  | _::_=>match NU (o2::o3::r) with
   | some (pre,q)=>some (o1::pre,q)
   | none=>none
theorem Qa:∀ {l pre:List Oper} {o1 o2 o3:Oper},NU l=some (pre,o1,o2,o3)→l=pre++[o1,o2,o3]
 | [],_,_,_,_,h=>by cases h
 | [_],_,_,_,_,h=>by cases h
 | [_,_],_,_,_,_,h=>by cases h
 | a::b::c::r,pre,o1,o2,o3,h=>by
  simp only [NU] at h
  split at h
  ·split at h
   ·cases h;rfl
   ·cases h
  ·split at h
   ·rename_i ag6 q hq
    obtain ⟨q1,q2,q3⟩:=q
    cases h
    rw [Qa hq];rfl
   ·cases h
def ae1 (o1 o2 o3:Oper):Option (TypeId×Operand×Operand×Nat×Nat×Operand×Operand):=match o1.op,o2.op,o3.op with
 | .mapEntry t m k,.extract (.tmp a) 1,.entryStore _ m3 (.tmp b) x=>match o1.dst,o2.dst,o3.dst with
  | some d1,some d2,none=>match Vu o1&&(Vu o2&&(Vu o3&&(Nat.beq a d1&&Nat.beq b d2))) with
   | true=>some (t,m,k,d1,d2,m3,x)
   | false=>none
  | _,_,_=>none
 | _,_,_=>none
def abR (B:Array Nat) (i:Nat):Nat→Bool
 | 0=>true
 | n+1=>bit B i n&&abR B i n
def RC (E:Env) (bH:List CT) (ops:List Oper) (B:Array Nat) (id:Nat) (s:bK) (κ:bK→Option R):Option R:=
 match NU ops with
 | some (pre,o1,o2,o3)=>match ae1 o1 o2 o3 with
  | some (t,m,k,d1,d2,m3,x)=>match (rL ops B [(pre.length+2,[id])]&&(bit B (pre.length+1) pre.length&&abR B (pre.length+2) (pre.length+2)))&&((!Hv B (pre.length+1) d1 0 ops&&!Nat.beq d1 d2)&&(d1.blt s.nt&&d2.blt s.nt)) with
   | true=>match E.P.underlying t with
    | some (.map _ et)=>match zvT E.P et with
     | some (.d _)=>N5 E bH ops B pre.length id t pre 0 s fun T=>ae0 E ops B pre.length id t m k m3 x d1 d2 T κ
     | _=>none
    | _=>none
   | false=>none
  | none=>none
 | none=>none
theorem dT.more {s s':fy} {x:Operand} {a:AV} (h:dT s x a) (l:Xh s s'):dT s' x a:=fun hs=>h (hs.less l)
theorem Wz {B:Array Nat} {i:Nat}:∀ {n:Nat},abR B i n=true→∀ j,j < n→bit B i j=true
 | 0,_,j,hj=>by omega
 | n+1,h,j,hj=>by
  simp only [abR,Bool.and_eq_true] at h
  by_cases e:j=n
  ·rw [e];exact h.1
  ·exact Wz h.2 j (by omega)
theorem RK {D:Nat→Bool} {H0:Hp} {id:Nat}:∀ {q:List RE},(∀ j e,dU q j=some e→e.up=[])→xU D H0 q id=H0 id
 | [],_=>rfl
 | e::r,h=>by
  have h1:=h r.length e (by simp [dU])
  simp only [xU,h1,xT,List.any_nil,Bool.and_false]
  exact RK fun j e' hj=>h j e' (by
   have:=iP hj
   simp only [dU];rw [if_neg (by omega)];exact hj)
theorem abS {D D':Nat→Bool} {N0:Nat}:∀ {q:List RE},(∀ j,j < q.length→D j=D' j)→kD D N0 q=kD D' N0 q
 | [],_=>rfl
 | e::r,h=>by
  funext id
  simp only [kD]
  rw [abS (D':=D') fun j hj=>h j (by simp;omega),h r.length (by simp)]
theorem wx {e:RE} {r:List RE} {j:Nat} (h:j < r.length):dU (e::r) j=dU r j:=by
 simp only [dU];rw [if_neg (by omega)]
def Laid {i:Nat} (n:Nat) (y0:cE) (l lp:List (C i)):Prop:=lp=l∨∃ yz,lp=l++[yz]∧(get i yz).drop (n+1)=[y0]
theorem X2 {i n:Nat} {v:Ty} {z:v.dn} {p:C i→Bool} {l lp:List (C i)} (h:Laid n ⟨v,z⟩ l lp):l8 p (AD i (n+1) v) z lp=l8 p (AD i (n+1) v) z l:=by
 rcases h with rfl | ⟨yz,rfl,hz⟩
 ·rfl
 ·unfold l8
  rw [List.find?_append]
  cases l.find? p with
  | some y=>rfl
  | none=>
   simp only [Option.none_or,List.find?_cons,List.find?_nil]
   cases p yz with
   | true=>simp [AD,hz]
   | false=>rfl
theorem abT {i n j:Nat} {kk:C j} {v:Ty} {z:v.dn} {l:List (C i)} (hdr:(Ag i).drop (n+1)=[v]):
  gZ (ze false (cK ⟨v,z⟩) (l.map fun x=>cY (n+1) (get i x)) ((l.findIdx? (fR i j (n+1) kk)).map (0+·))) (cK ⟨v,l8 (fR i j (n+1) kk) (AD i (n+1) v) z l⟩):=by
 simp only [l8]
 rcases AE (p:=fR i j (n+1) kk) (l:=l) with ⟨k1,k2⟩ | ⟨q,y,k1,k2,k3,k4⟩
 ·rw [k1,k2];exact (@gZ.refl _)
 ·rw [k1,k3]
  have Z1:((get i y).drop (n+1)).map (·.t)=[v]:=by
   rw [List.map_drop,pr,hdr]
  obtain ⟨b,hb⟩:∃ b:v.dn,(get i y).drop (n+1)=[⟨v,b⟩]:=by
   match hg:(get i y).drop (n+1),Z1 with
   | [⟨t',b⟩],h0=>
    simp only [List.map_cons,List.map_nil,List.cons.injEq,and_true] at h0
    subst h0
    exact ⟨b,rfl⟩
  have m4:((l.map fun x=>cY (n+1) (get i x)).getD (0+q) (.top,.top)).2=cK ⟨v,b⟩:=by
   simp [List.getD,k2,cY,hb]
  have m5:AD i (n+1) v y=b:=by
   unfold AD
   rw [hb]
   simp
  simp only [Option.map_some,ze,m4,m5]
  exact (@gZ.refl _)
theorem adN {E:Env} {T:bK} {id:Nat} {t0:TypeId} {o:Oper} {y:cE} {kt0 et0:TypeId} {Yq:cE} (ht0:E.P.underlying t0=some (.map kt0 et0)) (hz0:zvT E.P et0=some (.d Yq)) (h:lkE E T id t0 o=some y):
  (∀ c,o.op≠.defer c)∧(∃ rv,db E.P o T.st ⟨rv,[],[]⟩∧gZ rv (cK y))∧∃ i l n,aR T.H id=some (.dmap i l)∧KR i=n+1∧∀ (lp:List (C i)) (jj st:Nat),Laid n Yq l lp→
   ∃ rv,db E.P o ⟨T.nt,T.N,T.st.tm,fun b9=>if b9=id then some (.G_ (lp.map fun x=>cY (KR i) (get i x)) jj st) else none⟩ ⟨rv,[],[]⟩∧gZ rv (cK y):=by
 unfold lkE at h
 split at h
 ·rename_i t x k ho
  split at h
  ·rename_i b9 cs kt et hx hk ht
   split at h
   ·rename_i yz j kk bY hz hkg
    simp only [Bool.and_eq_true] at bY
    have e1:=Nat.eq_of_beq_eq_true bY.1
    have e2:=Nat.eq_of_beq_eq_true bY.2
    subst e1 e2
    rw [ht] at ht0
    cases ht0
    rw [hz] at hz0
    cases hz0
    split at h
    ·rename_i i l R8 hl
     split at h
     ·cases h
     ·rename_i n hn
      split at h
      ·rename_i O8 v _ hdr
       split at h
       ·rename_i v' z WA
        split at h
        ·rename_i e _
         subst e
         cases h
         obtain ⟨fs,Ge,_,_⟩:=Jg R8
         have N6:=Jh R8 kk
         have hyz:Yq=⟨v',z⟩:=by
          simp only [sv] at WA
          split at WA
          ·split at WA
           ·exact Option.some.inj WA
           ·cases WA
          ·cases WA
         have SQ:zvA E.P et0=some (cK ⟨v',z⟩):=by
          have:=(N7 hz T.H T.N).1
          simp only [TA.av] at this
          rw [this,hyz]
         have key:∀ (s:fy) (lp:List (C i)) (B:ju),s.tm=T.st.tm→s.nt=T.nt→s.H b9=some B→eD B (.map (lp.map fun x=>cY (n+1) (get i x)))→l8 (fR i j (n+1) kk) (AD i (n+1) v') z lp=l8 (fR i j (n+1) kk) (AD i (n+1) v') z l→
           ∃ rv,db E.P o s ⟨rv,[],[]⟩∧gZ rv (cK ⟨v',l8 (fR i j (n+1) kk) (AD i (n+1) v') z l⟩):=by
          intro s lp B htm hnt hB hBi hg
          have hf:=AF O8 R8 kk lp 0
          refine ⟨ze false (cK ⟨v',z⟩) (lp.map fun x=>cY (n+1) (get i x)) ((lp.findIdx? (fR i j (n+1) kk)).map (0+·)),bZ fun {w F O μ K ft act} hs=>?_,?_⟩
          ·have Ig:SR w F O μ K ⟨s.nt,s.N,s.tm,s.H.c7 [(b9,some (.map (lp.map fun x=>cY (n+1) (get i x))))]⟩ ft act:=by
            refine ⟨hs.hr.imp fun Bn b' cd=>?_,hs.nt,hs.tm,hs.df⟩
            simp only [Hp.c7] at cd
            by_cases e:Bn=b9
            ·rw [if_pos e] at cd
             cases cd
             exact ⟨B,by rw [e];exact hB,hBi⟩
            ·rw [if_neg e] at cd
             exact ⟨b',cd,eD.refl _⟩
           have hvl:∀ (xx:Operand),∀ {w F O μ K ft act},SR w F O μ K ⟨s.nt,s.N,s.tm,s.H.c7 [(b9,some (.map (lp.map fun x=>cY (n+1) (get i x))))]⟩ ft act→VR w F μ K ((T.val xx).av T.H) (act.eval xx):=by
            intro xx w F O μ K ft act hs
            cases xx with
            | tmp q=>
             have:=hs.tm q
             simp only [htm] at this
             exact this
            | const u=>simp only [bK.val,Nf];exact Kd u
            | func f=>simp only [bK.val,TA.av,dJ];exact .fn _ [] [] [] [] rfl rfl (fun i h=>by cases h) (fun i h=>by cases h)
            | global g=>simp only [bK.val,TA.av];exact .top _
           refine Qb (s:=⟨s.nt,s.N,s.tm,s.H.c7 [(b9,some (.map (lp.map fun x=>cY (n+1) (get i x))))]⟩) ho (id:=b9) (ka:=cK ⟨.st j,kk⟩) (fun hs=>?_) ?_ (fun hs=>?_) ht Ge N6.1 hf SQ Ig
           ·have:=hvl x hs
            rw [hx] at this
            simpa only [TA.av] using this
           ·simp only [Hp.c7,if_true]
           ·have:=hvl k hs
            rw [hk] at this
            exact L_ hkg T.H this
          ·rw [← hg];exact abT hdr
         refine ⟨(fun c hc=>by rw [ho] at hc;cases hc),?_,i,l,n,hl,hn,fun lp jj st hlp=>?_⟩
         ·refine key T.st l _ rfl rfl (dz hl) ?_ rfl
          simp only [aW.di,hn]
          exact eD.refl _
         ·refine key _ lp _ rfl rfl (by simp only [if_true];rfl) ?_ (X2 (hyz▸hlp))
          rw [hn]
          exact aai _ _ _
        ·cases h
       ·cases h
      ·cases h
    ·cases h
   ·cases h
  ·cases h
 ·cases h
theorem abU {p id i:Nat} (h:i < p):vU [(p,[id]),(p+2,[id])] i=[]∧vU [(p+2,[id])] i=[]:=by
 simp only [vU,ca (show ¬ i=p by omega),ca (show ¬ i=p+2 by omega),ca (show ¬ p=i by omega),ca (show ¬ p+2=i by omega),and_self]
structure aaj (P:Program) (ops:List Oper) (B:Array Nat) (p id:Nat) (y0:cE) (s:bK) (q:List RE) (e:RE) (o:Oper):Prop where
 up:e.up=[]
 one:P2 P ops B [(p+2,[id])] s.st q e o
 two:inc B q.length p=true→∀ (i n:Nat) (l lp:List (C i)) (jj st:Nat),aR s.H id=some (.dmap i l)→KR i=n+1→Laid n y0 l lp→
  P2 P ops B [(p+2,[id])] ⟨s.nt,s.N,s.st.tm,s.st.H.c7 [(id,some (.G_ (lp.map fun x=>cY (KR i) (get i x)) jj st))]⟩ q e o
theorem TP {E:Env} {bH:List CT} {ops:List Oper} {B:Array Nat} {p id:Nat} {t0 kt0 et0:TypeId} {Yq:cE} {s:bK} {κ:bK→Option R} {z:R} (hE:vT E bH) (vQ:∀ i o,ops[i]?=some o→B.getD i 0 < 2 ^ i) (ht0:E.P.underlying t0=some (.map kt0 et0)) (hz0:zvT E.P et0=some (.d Yq))
  (Q2:∀ i,i < p→inc B i (p+2)=false):∀ {l:List Oper} {T:bK} {q:List RE},
  N5 E bH ops B p id t0 l q.length T κ=some z→Inv s ops [(p,[id]),(p+2,[id])] T q→(∀ j e,dU q j=some e→e.up=[])→T.H=s.H→(∀ i o,l[i]?=some o→ops[q.length+i]?=some o)→q.length+l.length=p→
  ∃ rs Tf,κ Tf=some z∧Inv s ops [(p,[id]),(p+2,[id])] Tf rs∧rs.length=p∧XU q rs∧(∀ j e,dU rs j=some e→e.up=[])∧Tf.H=s.H∧∀ i o,l[i]?=some o→∃ e q',dU rs (q.length+i)=some e∧q'.length=q.length+i∧XU q' rs∧aaj E.P ops B p id Yq s q' e o
 | [],T,q,h,hi,UP,hTH,hl,hp=>by
  simp only [N5] at h
  exact ⟨q,T,h,hi,by simpa using hp,⟨[],rfl⟩,UP,hTH,fun i o ho=>by simp at ho⟩
 | o::rest,T,q,h,hi,UP,hTH,hl,hp=>by
  simp only [N5] at h
  have dL:q.length < p:=by simp at hp;omega
  have ho0:=hl 0 o (by simp)
  have Vv:∀ (D:Nat→Bool) (H0:Hp) (b9:Nat),xU D H0 q b9=H0 b9:=fun D H0 b9=>RK UP
  have fin:∀ (e:RE) (T':bK),N5 E bH ops B p id t0 rest (q.length+1) T' κ=some z→Inv s ops [(p,[id]),(p+2,[id])] T' (e::q)→T'.H=s.H→aaj E.P ops B p id Yq s q e o→
    ∃ rs Tf,κ Tf=some z∧Inv s ops [(p,[id]),(p+2,[id])] Tf rs∧rs.length=p∧XU q rs∧(∀ j e,dU rs j=some e→e.up=[])∧Tf.H=s.H∧∀ i o',(o::rest)[i]?=some o'→∃ e q',dU rs (q.length+i)=some e∧q'.length=q.length+i∧XU q' rs∧aaj E.P ops B p id Yq s q' e o':=by
   intro e T' h1 h2 h4 h3
   obtain ⟨rs,Tf,k1,k2,k3,k4,k6,k9,k5⟩:=TP hE vQ ht0 hz0 Q2 (q:=e::q) h1 h2 (fun j e' hj=>by
    simp only [dU] at hj
    split at hj
    ·cases hj;exact h3.up
    ·exact UP j e' hj) h4 (fun i o' Jl=>by
    have:=hl (i+1) o' (by simpa using Jl)
    rwa [show (e::q).length+i=q.length+(i+1) by simp;omega]) (by simp at hp ⊢;omega)
   obtain ⟨k7,k8⟩:=TG k4
   refine ⟨rs,Tf,k1,k2,k3,k7,k6,k9,fun i o' Jl=>?_⟩
   cases i with
   | zero=>
    simp only [List.getElem?_cons_zero,Option.some.injEq] at Jl
    subst Jl
    exact ⟨e,q,k8,rfl,k7,h3⟩
   | succ i=>
    obtain ⟨e',q',m1,m2,m3,m4⟩:=k5 i o' (by simpa using Jl)
    have e1:(e::q).length+i=q.length+(i+1):=by simp;omega
    exact ⟨e',q',e1▸m1,e1▸m2,m3,m4⟩
  split at h
  ·rename_i hdg
   simp only [Bool.and_eq_true] at hdg
   obtain ⟨hd,hg⟩:=hdg
   have hgn:o.guard=none:=by
    unfold Vu at hg
    cases e:o.guard with
    | none=>rfl
    | some _=>rw [e] at hg;cases hg
   have hw:∀ {w F O μ K ft a} {M:fy},SR w F O μ K M ft a→Region.wanted o (yielded ⟨ops⟩ a.tmps)=true:=fun _=>by unfold Region.wanted;rw [hgn]
   split at h
   ·split at h
    ·rename_i y hy
     obtain ⟨AL,⟨rv,k1,k2⟩,i,l,n,k3,k4,k5⟩:=adN ht0 hz0 hy
     have hi1:Inv s ops [(p+2,[id])] T q:=⟨hi.ok,hi.nt,hi.N,hi.tm,hi.H,fun j e hj=>by
      obtain ⟨o',m1,m2,_⟩:=hi.zz j e hj
      exact ⟨o',m1,m2,fun b9 bY=>by rw [UP j e hj] at bY;cases bY⟩⟩
     have mT:=hi1.Wo (B:=B) vQ
     have mH:=hi1.Wp (B:=B) vQ
     refine fin ⟨o.dst,cK y,[],T.N,0⟩ _ h ?_ (by rw [Jc];exact hTH) ?_
     ·refine ⟨zw hi.ok (by simp only [TA.wf]),by rw [Vn];exact hi.nt,⟨hi.N,by rw [Z9];rfl⟩,fun t=>?_,fun b9=>?_,fun j e hj=>?_⟩
      ·rw [Vo,Jc]
       simp only [zy,Bool.true_and]
       cases Ok o.dst t with
       | true=>simp only [TA.av]
       | false=>exact hi.tm t
      ·rw [Jc]
       simp only [xU,xT,List.any_nil,Bool.and_false]
       exact hi.H b9
      ·simp only [dU] at hj
       split at hj
       ·rename_i e1
        cases hj
        exact ⟨o,e1▸ho0,rfl,fun b9 bY=>by cases bY⟩
       ·exact hi.zz j e hj
     ·have Du:(match o.dst with | some t=>t.blt s.st.nt | none=>true)=true:=by
       show nU ⟨s.nt,s.N,s.tm,s.H⟩ o.dst=true
       cases hdd:o.dst with
       | none=>rfl
       | some t=>rw [hdd] at hd;simp only [nU] at hd ⊢;rw [← hi.nt];exact hd
      refine ⟨rfl,⟨rfl,Du,(fun b9 bY=>by cases bY),_,hi.nt,mT,mH,.inr ⟨fun hs=>hw hs,rv,[],k1,k2,fun b9 bY=>(by cases bY),fun b9 b' bY=>(by cases bY),AL⟩⟩,fun Bz i' n' l' lp jj st q1 q2 q3=>?_⟩
      have Pv:aR (T.mask ops B [(p+2,[id])] q.length).H id=aR T.H id:=by
       rcases mL T.H id (LN B q.length [(p+2,[id])]) with ⟨m1,x,_⟩ | ⟨_,m2⟩
       ·simp only [LN,Q2 q.length dL] at m1
        cases m1
       ·exact m2
      rw [Pv,hTH,q1] at k3
      cases k3
      obtain ⟨rv2,m1,m2⟩:=k5 lp jj st (by rw [k4] at q2;cases q2;exact q3)
      refine ⟨rfl,Du,(fun b9 bY=>by cases bY),⟨T.nt,T.N,(T.mask ops B [(p+2,[id])] q.length).st.tm,fun b9=>if b9=id then some (.G_ (lp.map fun x=>cY (KR i) (get i x)) jj st) else none⟩,hi.nt,mT,fun b9=>?_,.inr ⟨fun hs=>hw hs,rv2,[],m1,m2,fun b9 bY=>(by cases bY),fun b9 b' bY=>(by cases bY),AL⟩⟩
      by_cases e:b9=id
      ·refine .inr ⟨by simp only [FG,Q2 q.length dL,Bool.and_false,Bool.or_false],?_⟩
       rw [Vv]
       simp only [e,if_true,Hp.c7]
      ·exact .inl (by simp only [if_neg e])
    ·cases h
   ·obtain ⟨e,T',h1,h2,h3,h4⟩:=TH hE vQ hi ho0 hd hw h
    obtain ⟨t1,t2⟩:=abU (id:=id) dL
    have aak:e.up=[]:=by
     have:=h3.tou
     rw [t1] at this
     cases hu:e.up with
     | nil=>rfl
     | cons a b=>exact absurd (this a.1 (by rw [hu];simp)) (by simp)
    obtain ⟨M,c1,c2,c3,c4⟩:=h3.run
    refine fin e T' h1 h2 ((h4 t1).trans hTH) ⟨aak,⟨h3.d,h3.ok,(fun b9 bY=>by rw [aak] at bY;cases bY),M,c1,c2,fun b9=>?_,?_⟩,fun Bz i n l' lp jj st q1 q2 q3=>⟨h3.d,h3.ok,(fun b9 bY=>by rw [aak] at bY;cases bY),M,c1,c2,fun b9=>?_,?_⟩⟩
    ·rcases c3 b9 with e1 | ⟨e1,e2⟩
     ·exact .inl e1
     ·refine .inr ⟨?_,e2⟩
      simp only [FG,Bool.or_eq_false_iff] at e1 ⊢
      exact e1.2
    ·rcases c4 with ⟨a1,a2⟩ | ⟨a1,rv,LO,a2,a3,a4,a5,a6⟩
     ·exact .inl ⟨a1,a2⟩
     ·exact .inr ⟨a1,rv,LO,a2,a3,a4,(fun b9 b' bY=>by rw [aak] at bY;cases bY),a6⟩
    ·rcases c3 b9 with e1 | ⟨e1,e2⟩
     ·exact .inl e1
     ·simp only [FG,Bool.or_eq_false_iff] at e1
      have o8:b9≠id:=fun e=>by
       subst e
       have:=e1.1
       simp [Bz] at this
      refine .inr ⟨by simp only [FG,Bool.or_eq_false_iff];exact e1.2,?_⟩
      rw [e2,Vv,Vv]
      simp only [Hp.c7,if_neg o8]
    ·rcases c4 with ⟨a1,a2⟩ | ⟨a1,rv,LO,a2,a3,a4,a5,a6⟩
     ·exact .inl ⟨a1,a2⟩
     ·exact .inr ⟨a1,rv,LO,a2,a3,a4,(fun b9 b' bY=>by rw [aak] at bY;cases bY),a6⟩
  ·cases h
def ae2 {α:Type} (l:List α) (y:α):Option Nat→List α
 | none=>l++[y]
 | some _=>l
theorem Qc {B:Array Nat} {i t:Nat}:∀ {l:List Oper} {j:Nat},(∀ q,q < l.length→inc B i (j+q)=false)→Hv B i t j l=false
 | [],_,_=>rfl
 | o::r,j,h=>by
  simp only [Hv,h 0 (by simp),Bool.and_false,Bool.false_or]
  have h0:=h 0 (by simp)
  rw [Nat.add_zero] at h0
  rw [h0,Bool.and_false,Bool.false_or]
  exact Qc fun q hq=>by
   have:=h (q+1) (by simp;omega)
   rwa [show j+1+q=j+(q+1) by omega]
theorem WB {x y:cE} (ht:y.t=x.t) (h:X3 x y=true):x=y:=by
 obtain ⟨t,a⟩:=x
 obtain ⟨u,b⟩:=y
 simp only at ht
 subst ht
 cases u with
 | int k=>
  have:a=b:=LawfulBEq.eq_of_beq (α:=Int) h
  rw [this]
 | str=>
  have:a=b:=LawfulBEq.eq_of_beq (α:=List UInt8) h
  rw [this]
 | _=>simp [X3] at h
theorem WC:∀ {l m:List cE},m.map (·.t)=l.map (·.t)→RL l m=true→l=m
 | [],[],_,_=>rfl
 | [],_::_,h,_=>by simp at h
 | _::_,[],h,_=>by simp at h
 | [x],[y],h,hk=>by
  simp only [List.map_cons,List.map_nil,List.cons.injEq,and_true] at h
  simp only [RL] at hk
  rw [WB h hk]
 | [_],_::_::_,h,_=>by simp at h
 | x::x2::l,y::m,h,hk=>by
  simp only [List.map_cons,List.cons.injEq] at h
  cases m with
  | nil=>simp at h
  | cons y2 m=>
   simp only [RL,Bool.and_eq_true] at hk
   rw [WB h.1 hk.1,WC (l:=x2::l) (m:=y2::m) (by simpa using h.2) hk.2]
set_option maxHeartbeats 1000000 in
theorem Vs {E:Env} {bH:List CT} {ops:List Oper} {B:Array Nat} {id:Nat} {s:bK} {κ:bK→Option R} {z:R} {m0 rid:Nat} {n0:Nat×Nat} {ro:Option Nat} {a:Act} {Q:Exit→Act→World→Prop} (hE:vT E bH) (bA:E.P.follows .mixedOrders=true) (h:RC E bH ops B id s κ=some z)
  (ho:s.ok) (hm:m0≤s.N) (hn:OY n0 s a) (hs:SR w F O μ (below s.N) s.st ft a) (hk:∀ s' a' w' F' O' bB b7,κ s'=some z→x5 w F O μ m0 n0 s' a' w' F' O' bB b7→Q .normal a' w'):(Code.region rid ⟨ops⟩ true).wpIn (Wr ro) 0 E.P Q a w:=by
 unfold RC at h
 split at h
 case h_2=>cases h
 rename_i pre o1 o2 o3 hsp
 have X4:=Qa hsp
 split at h
 case h_2=>cases h
 rename_i t m k d1 d2 m3 x KI
 split at h
 case h_2=>cases h
 rename_i ae3
 simp only [Bool.and_eq_true,Bool.not_eq_true'] at ae3
 obtain ⟨⟨Z_,T8,OA⟩,⟨agH,ae4⟩,agI,agJ⟩:=ae3
 have ae4:=Nat.ne_of_beq_eq_false ae4
 split at h
 case h_2=>cases h
 rename_i kt et ht
 split at h
 case h_2=>cases h
 rename_i Yq hzt
 have adO:(o1.op=.mapEntry t m k∧o1.dst=some d1∧o1.guard=none)∧(o2.op=.extract (.tmp d1) 1∧o2.dst=some d2∧o2.guard=none)∧(∃ t',o3.op=.entryStore t' m3 (.tmp d2) x)∧o3.dst=none∧o3.guard=none:=by
  unfold ae1 at KI
  split at KI
  ·rename_i ho1 Yk ho3
   split at KI
   ·rename_i e1 e2 e3
    split at KI
    ·rename_i hg
     simp only [Bool.and_eq_true] at hg
     obtain ⟨g1,g2,g3,g4,g5⟩:=hg
     have g4:=Nat.eq_of_beq_eq_true g4
     have g5:=Nat.eq_of_beq_eq_true g5
     subst g4 g5
     simp only [Option.some.injEq,Prod.mk.injEq] at KI
     obtain ⟨rfl,rfl,rfl,rfl,rfl,rfl,rfl⟩:=KI
     have gd:∀ o:Oper,Vu o=true→o.guard=none:=fun o ho=>by
      unfold Vu at ho
      cases e:o.guard with
      | none=>rfl
      | some _=>rw [e] at ho;cases ho
     exact ⟨⟨ho1,e1,gd _ g1⟩,⟨Yk,e2,gd _ g2⟩,⟨_,ho3⟩,e3,gd _ g3⟩
    ·cases KI
   ·cases KI
  ·cases KI
 clear KI
 obtain ⟨⟨ho1,aal,Yb⟩,⟨Yk,aam,VD⟩,⟨t',ho3⟩,aan,hg3⟩:=adO
 generalize hp:pre.length=p at *
 have hlen:ops.length=p+3:=by rw [X4];simp [hp]
 have abC:=Z_
 simp only [rL,Bool.and_eq_true] at abC
 have hB:∀ i o,ops[i]?=some o→B.getD i 0 < 2 ^ i:=fun i o KB=>by
  have:=(I9 abC.1 i o KB).2.1
  rwa [Nat.zero_add] at this
 have at1:ops[p]?=some o1:=by rw [X4,List.getElem?_append_right (by omega),hp];simp
 have at2:ops[p+1]?=some o2:=by rw [X4,List.getElem?_append_right (by omega),hp];simp
 have at3:ops[p+2]?=some o3:=by rw [X4,List.getElem?_append_right (by omega),hp];simp
 have mC:∀ j,j < p+2→bit B (p+2) j=true:=Wz OA
 have ae5:∀ j,j < p+3→inc B (p+2) j=false:=fun j hj=>by
  simp only [inc,Bool.and_eq_false_iff,Bool.not_eq_false']
  by_cases e:j=p+2
  ·exact .inl (.inl (by rw [e];exact Nat.beq_refl _))
  ·exact .inl (.inr (mC j (by omega)))
 have ae6:∀ i,i < p→inc B i (p+2)=false:=fun i hi=>by
  simp only [inc,Bool.and_eq_false_iff,Bool.not_eq_false']
  exact .inr (mC i (by omega))
 have adB:Inv s ops [(p,[id]),(p+2,[id])] s []:=⟨ho,rfl,rfl,fun t=>rfl,fun id=>rfl,fun j e hj=>by cases hj⟩
 obtain ⟨q,T,Oj,Eg,HF,_,UP,hTH,P3⟩:=TP hE hB ht hzt ae6 (q:=[]) h adB (fun j e hj=>by cases hj) rfl (fun i o KB=>by
  simp only [List.length_nil,Nat.zero_add]
  rw [X4,List.getElem?_append_left (List.getElem?_eq_some_iff.1 KB).1]
  exact KB) (by simpa using hp)
 simp only [List.length_nil,Nat.zero_add] at P3
 unfold ae0 at Oj
 split at Oj
 case h_2=>cases Oj
 rename_i b9 cs kt' et' hvm hvk ht2
 rw [ht] at ht2
 cases ht2
 split at Oj
 case h_2=>cases Oj
 rename_i yz1 j kk bY SQ hkg
 have bY:=Nat.eq_of_beq_eq_true bY
 subst bY
 rw [hzt] at SQ
 cases SQ
 split at Oj
 case h_2=>cases Oj
 rename_i i l rS R8 hl agK
 split at Oj
 case h_2=>cases Oj
 rename_i n adP Ya
 have adP:=Nat.eq_of_beq_eq_true adP
 subst adP
 split at Oj
 case h_2=>cases Oj
 rename_i O8 v _ hdr
 split at Oj
 case h_2=>cases Oj
 rename_i yz y0 hlz hlx
 split at Oj
 case h_2=>cases Oj
 rename_i ae7 yf0 hbz hby
 obtain ⟨yzz,hyc⟩:∃ yc:C i,yc=ae7:=⟨ae7,rfl⟩
 subst hyc
 obtain ⟨y,hyc⟩:∃ yc:C i,yc=yf0:=⟨yf0,rfl⟩
 subst hyc
 have hyz:yz=Yq:=by
  simp only [sv] at hlz
  split at hlz
  ·split at hlz
   ·exact (Option.some.inj hlz).symm
   ·cases hlz
  ·cases hlz
 subst hyz
 obtain ⟨fs,Ge,_,_⟩:=Jg R8
 have N6:=Jh R8 kk
 have hza:zvA E.P et=some (cK yz):=by
  have:=(N7 hzt T.H T.N).1
  simpa only [TA.av] using this
 obtain ⟨_,agL,_⟩:=gR hlz
 obtain ⟨_,agM,agN⟩:=gR hlx
 have hjl:(get j kk).length=n+1:=by
  have h1:=congrArg List.length (pr j kk)
  have h2:=congrArg List.length O8
  have h3:=congrArg List.length (pr i y)
  have h4:=congrArg List.length (show get i y=get j kk++[y0] from ez hby)
  simp at h1 h2 h3 h4
  omega
 have pk:∀ (yy:C i) (q0:cE),get i yy=get j kk++[q0]→cY (n+1) (get i yy)=(cK ⟨.st j,kk⟩,cK q0):=fun yy q0 e=>by
  rw [e,KJ]
  simp only [cY,← hjl,List.take_left,List.drop_left]
 have hpz:=pk yzz yz (ez hbz)
 have hpy:=pk y y0 (ez hby)
 obtain ⟨lA,hlA⟩:∃ lA,lA=l.map fun x=>cY (n+1) (get i x):=⟨_,rfl⟩
 obtain ⟨r,hr⟩:∃ r,r=l.findIdx? (fR i j (n+1) kk):=⟨_,rfl⟩
 have hf:kN (cK ⟨.st j,kk⟩) lA 0=some r:=by
  have:=AF O8 R8 kk l 0
  rw [← hlA,← hr] at this
  rw [this];cases r<;>simp
 have hka:∀ jj,r=some jj→(lA.getD jj (.top,.top)).1=cK ⟨.st j,kk⟩∧jj < l.length:=fun jj e=>by
  rw [hr] at e
  obtain ⟨h1,h2,_⟩:=List.findIdx?_eq_some_iff_getElem.1 e
  refine ⟨?_,h1⟩
  have h3:=WC (by rw [WD O8,pr]) h2
  rw [hlA]
  have e2:((l.map fun x=>cY (n+1) (get i x)).getD jj (.top,.top)).1=.agg (((get i l[jj]).take (n+1)).map cK):=by
   simp [List.getD,h1,cY]
  rw [e2,KJ,h3]
 obtain ⟨lp,hlp⟩:∃ lp:List (C i),lp=ae2 l yzz r:=⟨_,rfl⟩
 have ae8:Laid n yz l lp:=by
  rw [hlp]
  cases r with
  | some _=>exact .inl rfl
  | none=>
   refine .inr ⟨yzz,rfl,?_⟩
   rw [show get i yzz=get j kk++[yz] from ez hbz,← hjl,List.drop_left]
 have KI:FI lA (cK ⟨.st j,kk⟩) (cK yz) r=lp.map fun x=>cY (n+1) (get i x):=by
  rw [hlp,hlA]
  cases r<;>simp [FI,ae2,hpz]
 have ae9:(FI lA (cK ⟨.st j,kk⟩) (cK yz) r).set (CJ lA r) (((FI lA (cK ⟨.st j,kk⟩) (cK yz) r).getD (CJ lA r) (.top,.top)).1,cK y0)=(nV (fR i j (n+1) kk) l y).map fun x=>cY (n+1) (get i x):=by
  rw [KK hpy,← hr,← hlA]
  cases r with
  | none=>simp [FI,CJ,oC,List.getD]
  | some jj=>simp only [FI,CJ,oC,(hka jj rfl).1]
 obtain ⟨abV,acq⟩:∃ lf,lf=(nV (fR i j (n+1) kk) l y).map fun x=>cY (n+1) (get i x):=⟨_,rfl⟩
 rw [← acq] at ae9
 have hsH:s.st.H rS=some (.map lA):=by
  have h9:s.st.H rS=some (.map (l.map fun x=>cY (KR i) (get i x))):=dz (by rw [← hTH];exact hl)
  rw [h9,Ya,hlA]
 have Vv:∀ (D:Nat→Bool) (H0:Hp) (b9:Nat),xU D H0 q b9=H0 b9:=fun D H0 b9=>RK UP
 have acr:Inv s ops [(p+2,[rS])] T q:=⟨Eg.ok,Eg.nt,Eg.N,Eg.tm,Eg.H,fun j e hj=>by
  obtain ⟨o',m1,m2,_⟩:=Eg.zz j e hj
  exact ⟨o',m1,m2,fun b9 bY=>by rw [UP j e hj] at bY;cases bY⟩⟩
 let X5:RE:=⟨none,.lit undef,[(rS,some (.map abV))],T.N,0⟩
 let rs:AV→AV→List RE:=fun v1 v2=>X5::⟨some d2,v2,[],T.N,0⟩::⟨some d1,v1,[],T.N,0⟩::q
 have ae_:∀ v1 v2,(rs v1 v2).length=p+3:=fun v1 v2=>by simp [rs,HF]
 have wfr:∀ v1 v2,Yo s.N (rs v1 v2) T.N:=fun v1 v2=>⟨⟨⟨Eg.N,rfl⟩,rfl⟩,rfl⟩
 have afa:∀ v1 v2 i',i' < p→dU (rs v1 v2) i'=dU q i':=fun v1 v2 i' hi=>by
  simp only [rs]
  rw [wx (by simp;omega),wx (by simp;omega),wx (by omega)]
 have adQ:∀ v1 v2,dU (rs v1 v2) p=some ⟨some d1,v1,[],T.N,0⟩:=fun v1 v2=>by
  simp only [rs]
  rw [wx (by simp;omega),wx (by simp;omega)]
  simp [dU,HF]
 have afb:∀ v1 v2,dU (rs v1 v2) (p+1)=some ⟨some d2,v2,[],T.N,0⟩:=fun v1 v2=>by
  simp only [rs]
  rw [wx (by simp;omega)]
  simp [dU,HF]
 have afc:∀ v1 v2,dU (rs v1 v2) (p+2)=some X5:=fun v1 v2=>by
  simp [rs,dU,HF]
 have adR:∀ v1 v2 (D:Nat→Bool) (H0:Hp) b9,D (p+2)=false→xU D H0 (rs v1 v2) b9=H0 b9:=fun v1 v2 D H0 b9 hD=>by
  simp only [rs,xU,List.length_cons,HF,hD,Bool.false_and,xT,List.any_nil,Bool.and_false]
  exact Vv _ _ _
 have abW:∀ v1 v2 q',XU q' q→XU q' (rs v1 v2):=fun v1 v2 q' ⟨u,e⟩=>⟨X5::⟨some d2,v2,[],T.N,0⟩::⟨some d1,v1,[],T.N,0⟩::u,by simp only [rs,e,List.cons_append]⟩
 have afd:∀ j',vU [(p+2,[rS])] j'=if j'=p+2 then [rS] else []:=fun j'=>by
  simp only [vU]
  by_cases e:j'=p+2
  ·subst e;simp
  ·rw [if_neg e]
   first
    | rw [ca e]
    | rw [ca (fun h=>e h.symm)]
 have wtd:∀ {o:Oper} {a':Act},o.guard=none→Region.wanted o (yielded ⟨ops⟩ a'.tmps)=true:=fun hg=>by unfold Region.wanted;rw [hg]
 let Tf:bK:=⟨T.nt,T.N,(d1,.top)::(d2,.top)::T.tm,cz T.H [(rS,some (.dmap i (nV (fR i j (n+1) kk) l y)))]⟩
 have Oj:κ Tf=some z:=Oj
 have iV:Sub T.H Tf.H T.N:=EG hl rfl rfl
 have afe:Tf.ok:=by
  refine ⟨fun t=>?_,fun id l' Bk=>?_⟩
  ·show (look ((d1,.top)::(d2,.top)::T.tm) t).wf Tf.H T.N
   simp only [look]
   cases Nat.beq t d1 with
   | true=>simp only [TA.wf]
   | false=>
    cases Nat.beq t d2 with
    | true=>simp only [TA.wf]
    | false=>exact (iX iV (Nat.le_refl _) _ (Eg.ok.tm t)).2
  ·have Bk:aR (cz T.H [(rS,some (.dmap i (nV (fR i j (n+1) kk) l y)))]) id=some l':=Bk
   rw [rI] at Bk
   split at Bk
   ·cases Bk;simp only [aW.refs,gQ]
   ·exact (g7 iV (Nat.le_refl _) _ (Eg.ok.H id l' Bk)).2
 have hsN:s.N≤T.N:=by
  have key:∀ {q:List RE} {N:Nat},Yo s.N q N→s.N≤N:=by
   intro q
   induction q with
   | nil=>intro N h;exact Nat.le_of_eq h.symm
   | cons x q ih=>intro N h;have:=ih h.1;have:=h.2;omega
  exact key Eg.N
 have agO:∀ v1 v2 (H0:Hp),(∀ b9,b9≠rS→H0 b9=s.st.H b9)→∀ w' F' O' bB b7 a',a'.defers=a.defers→SR w' F' O' bB (below T.N) ⟨s.nt,T.N,zy (fun _=>true) s.st.tm (rs v1 v2),xU (fun _=>true) H0 (rs v1 v2)⟩ b7 a'→Fr w F O μ (below m0) w' F' O' bB→Q .normal a' w':=by
  intro v1 v2 H0 hH0 w' F' O' bB b7 a' rR g6 AA
  refine hk Tf a' w' F' O' bB b7 Oj ⟨afe,Nat.le_trans hm hsN,⟨Eg.nt.trans hn.1,by rw [rR];exact hn.2⟩,⟨?_,?_,fun t=>?_,g6.df⟩,AA⟩
  ·have e:(xU (fun _=>true) H0 (rs v1 v2))=vS Tf.H:=by
    funext id
    simp only [rs,xU,Bool.true_and,xT,List.any_cons,List.any_nil,Bool.or_false,X5]
    by_cases e:id=rS
    ·subst e
     simp only [Nat.beq_refl,Hp.c7,if_true]
     rw [Kg (H:=Tf.H) (show aR Tf.H id=some (.dmap i (nV (fR i j (n+1) kk) l y)) by simp only [Tf];rw [rI,if_pos rfl]) rfl]
     simp only [aW.di,Ya,acq]
    ·rw [ca (fun h=>e h.symm)]
     simp only
     rw [Vv,hH0 id e]
     have e1:aR Tf.H id=aR T.H id:=by simp only [Tf];rw [rI,if_neg e]
     show vS s.H id=vS Tf.H id
     rw [← hTH]
     unfold vS
     rw [e1]
     cases hb:aR T.H id with
     | none=>rfl
     | some b=>
      simp only [Option.bind_some]
      cases hv:b.TW with
      | false=>rfl
      | true=>
       simp only
       rw [o_ iV (Eg.ok.H id _ hb)]
   have:=g6.hr
   simp only [e] at this
   exact this
  ·exact g6.nt.trans Eg.nt.symm
  ·have:=g6.tm t
   simp only [rs,zy,Bool.true_and,X5,Ok] at this
   show VR w' F' bB _ ((look ((d1,.top)::(d2,.top)::T.tm) t).av Tf.H) _
   simp only [look]
   cases e1:Nat.beq t d1 with
   | true=>simp only [TA.av];exact .top _
   | false=>
    cases e2:Nat.beq t d2 with
    | true=>simp only [TA.av];exact .top _
    | false=>
     rw [ca (fun h=>Nat.ne_of_beq_eq_false e2 h.symm),ca (fun h=>Nat.ne_of_beq_eq_false e1 h.symm)] at this
     simp only at this
     rw [← Eg.tm t] at this
     simp only
     rw [(iX iV (Nat.le_refl _) _ (Eg.ok.tm t)).1]
     exact this
 have WE:∀ (s':fy) (q':List RE) (e:RE) (o:Oper) (Z:fy→Prop),s'.nt=s.nt→e.d=o.dst→(∀ b9,b9∈e.up.map (·.1)→b9∈vU [(p+2,[rS])] q'.length)→Z ⟨s.nt,0,fun _=>.top,fun _=>none⟩→ach ops B [(p+2,[rS])] s' q' e o Z:=fun s' q' e o Z h0 h1 h2 h3=>
  ⟨h1,h2,⟨s.nt,0,fun _=>.top,fun _=>none⟩,h0.symm,fun _=>.inl rfl,fun _=>.inl rfl,h3⟩
 let X1:Nat→Bool:=fun i'=>Nat.beq i' p||(Nat.beq i' (p+1)||Nat.beq i' (p+2))
 let Φ1:(Nat→Bool)→Prop:=fun D=>D p=false∧D (p+1)=false∧D (p+2)=false
 have at0:∀ i' o,ops[i']?=some o→i' < p∧pre[i']?=some o∨i'=p∧o=o1∨i'=p+1∧o=o2∨i'=p+2∧o=o3:=fun i' o KB=>by
  have dL:i' < ops.length:=(List.getElem?_eq_some_iff.1 KB).1
  rcases Nat.lt_or_ge i' p with e | e
  ·rw [X4,List.getElem?_append_left (by omega)] at KB
   exact .inl ⟨e,KB⟩
  ·rcases (show i'=p∨i'=p+1∨i'=p+2 by omega) with e | e | e
   ·subst e;rw [at1] at KB;exact .inr (.inl ⟨rfl,(Option.some.inj KB).symm⟩)
   ·subst e;rw [at2] at KB;exact .inr (.inr (.inl ⟨rfl,(Option.some.inj KB).symm⟩))
   ·subst e;rw [at3] at KB;exact .inr (.inr (.inr ⟨rfl,(Option.some.inj KB).symm⟩))
 have emp:iQ (Array.replicate ops.length false)=fun _=>false:=by
  funext j
  simp only [iQ]
  by_cases h:j < ops.length<;>simp [h]
 have eT:∀ q:List RE,zy (fun _=>false) s.st.tm q=s.st.tm:=fun q=>by
  induction q with
  | nil=>rfl
  | cons x q ih=>funext t;exact congrFun ih t
 have eH:∀ q:List RE,xU (fun _=>false) s.st.H q=s.st.H:=fun q=>by
  induction q with
  | nil=>rfl
  | cons x q ih=>funext t;exact congrFun ih t
 have eK:∀ q:List RE,kD (fun _=>false) s.N q=below s.N:=fun q=>by
  induction q with
  | nil=>rfl
  | cons x q ih=>funext t;simp [kD,ih]
 refine wpIn_region_any bA ?_
 refine NR (s:=s.st) (rs:=rs .top .top) (N:=T.N) (m0:=m0) (X:=X1) (Φ:=Φ1) (Z:=fun i' M=>i'=p→M=(T.mask ops B [(p+2,[rS])] p).st) (w0:=w) (F0:=F) (O0:=O) (Zs:=μ) (ds0:=a.defers) (ro:=ro) Z_ (wfr _ _) hm (by rw [ae_,hlen]) ?_ ?_ ?_ ?_ _ _ _ _ F O μ ft (by simp) (by
   unfold unl
   simp [List.countP_replicate]) (by
   rw [show (⟨ops⟩:Array Oper).size=ops.length from rfl,emp];intro i hi;cases hi) ?_ (Fr.drew _) rfl (by
   rw [show (⟨ops⟩:Array Oper).size=ops.length from rfl,emp];exact ⟨rfl,rfl,rfl⟩)
 ·rintro D i' ⟨h1,h2,h3⟩ hX
  simp only [X1,Bool.or_eq_false_iff] at hX
  have e1:=Nat.ne_of_beq_eq_false hX.1
  have e2:=Nat.ne_of_beq_eq_false hX.2.1
  have e3:=Nat.ne_of_beq_eq_false hX.2.2
  simp only [Φ1,more]
  rw [if_neg (fun h=>e1 h.symm),if_neg (fun h=>e2 h.symm),if_neg (fun h=>e3 h.symm)]
  exact ⟨h1,h2,h3⟩
 ·intro i' o KB
  rcases at0 i' o KB with ⟨e,Ub⟩ | ⟨rfl,rfl⟩ | ⟨rfl,rfl⟩ | ⟨rfl,rfl⟩
  ·obtain ⟨e',q',m1,m2,m3,m4⟩:=P3 i' o Ub
   exact ⟨e',q',by rw [afa _ _ _ e];exact m1,m2,abW _ _ _ m3,.inl ⟨by simp only [X1];rw [ca (by omega),ca (by omega),ca (by omega)];rfl,m4.one⟩⟩
  ·refine ⟨_,q,adQ _ _,HF,abW _ _ _ ⟨[],rfl⟩,.inr ⟨by simp [X1],aal.symm,(fun b9 bY=>by cases bY),_,Eg.nt,?_,?_,fun _=>rfl⟩⟩
   ·have:=acr.Wo (B:=B) hB
    rw [HF] at this
    rw [HF]
    exact this
   ·have:=acr.Wp (B:=B) hB
    rw [HF] at this
    rw [HF]
    exact this
  ·exact ⟨_,⟨some d1,.top,[],T.N,0⟩::q,afb _ _,by simp [HF],⟨[X5,⟨some d2,.top,[],T.N,0⟩],rfl⟩,.inr ⟨by simp [X1],WE _ _ _ _ _ rfl aam.symm (fun b9 bY=>by cases bY) fun h=>by omega⟩⟩
  ·refine ⟨_,⟨some d2,.top,[],T.N,0⟩::⟨some d1,.top,[],T.N,0⟩::q,afc _ _,by simp [HF],⟨[X5],rfl⟩,.inr ⟨by simp [X1],WE _ _ _ _ _ rfl aan.symm (fun b9 bY=>?_) fun h=>by omega⟩⟩
   simp only [X5,List.map_cons,List.map_nil,List.mem_singleton] at bY
   rw [afd,if_pos (by simp [HF]),bY]
   simp
 ·
  intro i' o M KB hX hZ fuel listed a1 w1 F1 O1 Kj V2 fw hun Og Z5 hBi XV P4 g6 AA rR
  rcases at0 i' o KB with ⟨e,_⟩ | ⟨rfl,rfl⟩ | ⟨rfl,rfl⟩ | ⟨rfl,rfl⟩
  ·simp only [X1] at hX
   rw [ca (by omega),ca (by omega),ca (by omega)] at hX
   cases hX
  ·have hZ:=hZ rfl
   subst hZ
   unfold wpOpIn
   have agP:(⟨ops⟩:Array Oper)[i']?=some o:=by simpa using KB
   rw [agP]
   simp only [wtd Yb,if_true]
   refine Tu (fun c hc=>by rw [ho1] at hc;cases hc) ?_
   have hxm:dT (T.mask ops B [(i'+2,[rS])] i').st m (.mp rS):=fun {w F O μ K ft act} hs=>by have:=b8 hvm hs;simpa only [TA.av] using this
   have hxk:dT (T.mask ops B [(i'+2,[rS])] i').st k (cK ⟨.st j,kk⟩):=fun {w F O μ K ft act} hs=>L_ hkg _ (hvk▸fQ _ k hs)
   have hJH:(Js s.st (rs .top .top) (iQ listed)).H rS=some (.map lA):=by
    show xU (iQ listed) s.st.H (rs .top .top) rS=_
    rw [adR _ _ _ _ _ XV.2.2,hsH]
   obtain ⟨v0,st,w2,O2,Lg,lD,hhr,adS⟩:=X6 ho1 (hxm.more P4) hJH (hxk.more P4) hza (tw agL) N6.2.1 ht Ge N6.1 hf (fun jj e=>(hka jj e).1) g6
   unfold Oper.wp
   rw [lD,Oper.upon_value,aal]
   let s2:fy:=⟨s.nt,s.N,s.st.tm,s.st.H.c7 [(rS,some (.G_ (lp.map fun x=>cY (KR i) (get i x)) (CJ lA r) st))]⟩
   let v1:AV:=.n9 [.top,.int .i64 (st:Nat)]
   let v2:AV:=.int .i64 (st:Nat)
   have hil:i' < listed.size:=by rw [fw,hlen];omega
   have hD':iQ (listed.setIfInBounds i' true)=more (iQ listed) i':=I_ hil
   have hDo:∀ q',q'≠i'→iQ (listed.setIfInBounds i' true) q'=iQ listed q':=fun q' hq=>by rw [hD'];simp only [more,if_neg hq]
   have aff:iQ (listed.setIfInBounds i' true) i'=true:=by rw [hD'];simp [more]
   have acs:s2.H rS=some (.G_ (lp.map fun x=>cY (KR i) (get i x)) (CJ lA r) st):=by simp [s2,Hp.c7]
   have afg:∀ q',q'≠rS→s2.H q'=s.st.H q':=fun q' hq=>by simp only [s2,Hp.c7,if_neg hq]
   have afh:d1 < a1.tmps.size:=by rw [g6.nt];exact Nat.le_of_ble_eq_true agI
   have eKK:kD (iQ (listed.setIfInBounds i' true)) s2.N (rs v1 v2)=kD (iQ listed) s.N (rs .top .top):=by
    funext id
    rw [hD']
    refine propext ((L8 (adQ v1 v2) id).trans ⟨fun h=>?_,fun h=>.inl h⟩)
    rcases h with h | ⟨h1,h2⟩
    ·exact h
    ·simp only at h1 h2;omega
   refine NR (s:=s2) (rs:=rs v1 v2) (N:=T.N) (m0:=m0) (X:=fun q'=>bit B i' q'||Nat.beq q' i') (Φ:=fun D=>∀ q',iQ (listed.setIfInBounds i' true) q'=true→D q'=true) (Z:=fun _ _=>True) (w0:=w) (F0:=F) (O0:=O) (Zs:=μ) (ds0:=a.defers) (ro:=ro)
    Z_ (wfr _ _) hm (by rw [ae_,hlen]) ?_ ?_ ?_ ?_ fuel _ _ w2 F1 O2 Kj Lg (by simp [fw]) (by have:=Rw hil Z5;omega) ?_ ?_ (AA.trans (adS.Of fun id (bY:id < m0)=>Vl (show id < s.N by omega))) rR (fun _ h=>h)
   ·intro D q' hD _ q2 hq2
    simp only [more]
    split
    ·rfl
    ·exact hD q2 hq2
   ·intro q' o' adT
    rcases at0 q' o' adT with ⟨e,Ub⟩ | ⟨rfl,rfl⟩ | ⟨rfl,rfl⟩ | ⟨rfl,rfl⟩
    ·obtain ⟨e',q2,m1,m2,m3,m4⟩:=P3 q' o' Ub
     refine ⟨e',q2,by rw [afa _ _ _ e];exact m1,m2,abW _ _ _ m3,?_⟩
     cases hb:bit B i' q' with
     | true=>exact .inr ⟨by simp,WE _ _ _ _ _ rfl m4.one.d (fun b9 bY=>by rw [m4.up] at bY;cases bY) trivial⟩
     | false=>
      refine .inl ⟨by simp only [Bool.false_or];exact ca (by omega),?_⟩
      have agQ:Laid n yz l lp:=ae8
      refine m4.two ?_ i n l lp (CJ lA r) st (by rw [← hTH];exact hl) Ya agQ
      rw [m2]
      simp only [inc,ca (show ¬ q'=i' by omega),hb,Bool.not_false,Bool.true_and,Bool.and_true]
      cases OA:bit B q' i' with
      | false=>rfl
      | true=>have:=Bx (hB q' o' adT) OA;omega
    ·exact ⟨_,q,adQ _ _,HF,abW _ _ _ ⟨[],rfl⟩,.inr ⟨by simp,WE _ _ _ _ _ rfl aal.symm (fun b9 bY=>by cases bY) trivial⟩⟩
    ·refine ⟨_,⟨some d1,v1,[],T.N,0⟩::q,afb _ _,by simp [HF],⟨[X5,⟨some d2,v2,[],T.N,0⟩],rfl⟩,.inl ⟨?_,aam.symm,?_,(fun b9 bY=>by cases bY),⟨s.nt,0,fun t=>if t=d1 then v1 else .top,fun _=>none⟩,rfl,fun t=>?_,fun _=>.inl rfl,.inr ⟨fun _=>wtd VD,v2,[],?_,gZ.refl _,(fun b9 bY=>by cases bY),(fun b9 b' bY=>by cases bY),(fun c hc=>by rw [Yk] at hc;cases hc)⟩⟩⟩
     ·simp only [Bool.or_eq_false_iff]
      refine ⟨?_,ca (by omega)⟩
      cases hb:bit B i' (i'+1) with
      | false=>rfl
      | true=>have:=Bx (hB i' _ at1) hb;omega
     ·rw [aam];exact agJ
     ·by_cases e:t=d1
      ·refine .inr ⟨?_,?_⟩
       ·rw [e];simp only [List.length_cons,HF];exact agH
       ·simp only [e,if_true,zy,List.length_cons,HF,T8,Ok,Nat.beq_refl,Bool.and_self]
      ·exact .inl (by simp only [if_neg e])
     ·have mO:=M4 (P:=E.P) (s:=⟨s.nt,0,fun t=>if t=d1 then v1 else .top,fun _=>none⟩) (cs:=[.top,.int .i64 (st:Nat)]) Yk (fun {w F O μ K ft act} hs=>by
       have:=hs.tm d1
       simp only [if_true] at this
       exact this) (by simp)
      exact mO
    ·let M2:fy:=⟨s.nt,0,fun t=>if t=d2 then v2 else if t=d1 then .top else (look T.tm t).av T.H,fun b9=>if b9=rS then some (.G_ (lp.map fun x=>cY (KR i) (get i x)) (CJ lA r) st) else none⟩
     have hv2:∀ (xx:Operand),dT M2 xx ((bK.val ⟨T.nt,T.N,(d1,.top)::(d2,.top)::T.tm,T.H⟩ xx).av T.H):=by
      intro xx w F O μ K ft act hs
      cases xx with
      | tmp q2=>
       have:=hs.tm q2
       simp only [bK.val,look]
       cases e1:Nat.beq q2 d1 with
       | true=>simp only [TA.av];exact .top _
       | false=>
        cases e2:Nat.beq q2 d2 with
        | true=>simp only [TA.av];exact .top _
        | false=>
         simp only [M2,if_neg (Nat.ne_of_beq_eq_false e1),if_neg (Nat.ne_of_beq_eq_false e2)] at this
         exact this
      | const u=>simp only [bK.val,Nf];exact Kd u
      | func f=>simp only [bK.val,TA.av,dJ];exact .fn _ [] [] [] [] rfl rfl (fun i h=>by cases h) (fun i h=>by cases h)
      | global g=>simp only [bK.val,TA.av];exact .top _
     have mO:=O9 (P:=E.P) (s:=M2) (va:=cK y0) ho3 (id:=rS) (j:=CJ lA r) (st:=st) (l:=lp.map fun x=>cY (KR i) (get i x))
      (fun {w F O μ K ft act} hs=>by have:=hv2 m3 hs;rw [agK] at this;simpa only [TA.av] using this) (by simp only [M2,if_true]) (fun {w F O μ K ft act} hs=>by
       have:=hs.tm d2
       simp only [M2,if_true] at this
       exact this) (fun {w F O μ K ft act} hs=>agN T.H (hv2 x hs)) (tw agM)
     have Ui:(lp.map fun x=>cY (KR i) (get i x)).set (CJ lA r) (((lp.map fun x=>cY (KR i) (get i x)).getD (CJ lA r) (.top,.top)).1,cK y0)=abV:=by
      rw [Ya]
      show (lp.map fun x=>cY (n+1) (get i x)).set (CJ lA r) (((lp.map fun x=>cY (n+1) (get i x)).getD (CJ lA r) (.top,.top)).1,cK y0)=abV
      rw [← KI];exact ae9
     rw [Ui] at mO
     refine ⟨_,⟨some d2,v2,[],T.N,0⟩::⟨some d1,v1,[],T.N,0⟩::q,afc _ _,by simp [HF],⟨[X5],rfl⟩,.inl ⟨?_,aan.symm,by rw [aan],fun b9 bY=>?_,M2,rfl,fun t=>?_,fun b9=>?_,.inr ⟨fun _=>wtd hg3,_,_,mO,gZ.refl _,(fun b9 bY=>bY),fun b9 b' bY cd=>?_,(fun c hc=>by rw [ho3] at hc;cases hc)⟩⟩⟩
     ·simp only [Bool.or_eq_false_iff]
      refine ⟨?_,ca (by omega)⟩
      cases hb:bit B i' (i'+2) with
      | false=>rfl
      | true=>have:=Bx (hB i' _ at1) hb;omega
     ·simp only [X5,List.map_cons,List.map_nil,List.mem_singleton] at bY
      rw [afd,if_pos (by simp [HF]),bY]
      simp
     ·have hh:Hv B (i'+2) t 0 ops=false:=Qc fun q2 hq2=>by rw [Nat.zero_add];exact ae5 q2 (by omega)
      have aao:((⟨some d2,v2,[],T.N,0⟩:RE)::⟨some d1,v1,[],T.N,0⟩::q).length=i'+2:=by simp [HF]
      rw [aao]
      by_cases e2:t=d2
      ·refine .inr ⟨hh,?_⟩
       simp only [M2,e2,if_true,zy,List.length_cons,HF,mC (i'+1) (by omega),Ok,Nat.beq_refl,Bool.and_self]
      ·by_cases e1:t=d1
       ·exact .inl (by simp only [M2,if_neg e2,if_pos e1])
       ·refine .inr ⟨hh,?_⟩
        simp only [M2,if_neg e2,if_neg e1,zy,Ok,ca (fun h=>e2 h.symm),ca (fun h=>e1 h.symm),Bool.and_false]
        rw [Eg.tm t]
        refine sV fun j2 e' S6 _=>?_
        rw [mC j2 (by have:=iP S6;omega)]
     ·by_cases e:b9=rS
      ·refine .inr ⟨?_,?_⟩
       ·have aao:((⟨some d2,v2,[],T.N,0⟩:RE)::⟨some d1,v1,[],T.N,0⟩::q).length=i'+2:=by simp [HF]
        rw [aao]
        simp only [FG,ae5 (i'+2) (by omega),Bool.and_false,Bool.or_false]
       ·simp only [M2,if_pos e,xU,xT,List.any_nil,Bool.and_false]
        rw [Vv,e,acs]
      ·exact .inl (by simp only [M2,if_neg e])
     ·simp only [X5,List.map_cons,List.map_nil,List.mem_singleton] at bY
      subst bY
      simp only [X5,Hp.c7,if_true,Option.some.injEq] at cd
      exact ⟨.map abV,by simp only [Hp.c7,if_true],by rw [cd];exact eD.refl _⟩
   ·intro q' o' M' adT hX2 _ agZ afu a2 w3 F3 O3 μ3 ft3 _ _ _ afi ag7 afj
    exfalso
    simp only [Bool.or_eq_true] at hX2
    rcases hX2 with hX2 | hX2
    ·have h1:=hBi q' hX2
     have h2:=afj q' (by rw [hD'];simp only [more];split<;>first | rfl | exact h1)
     rw [afi] at h2;cases h2
    ·have e:=Nat.eq_of_beq_eq_true hX2
     have h2:=afj q' (by rw [e];exact aff)
     rw [afi] at h2;cases h2
   ·intro w' F' O' bB b7 a' _ adC agR agS
    exact agO v1 v2 s2.H afg w' F' O' bB b7 a' adC agR agS
   ·rw [hD']
    intro q1 hq1 q2 hb
    simp only [more] at hq1 ⊢
    split
    ·rfl
    ·split at hq1
     ·rename_i e;subst e;exact hBi q2 hb
     ·exact Og q1 hq1 q2 hb
   ·have hD2:iQ (listed.setIfInBounds i' true) (i'+2)=false:=by rw [hDo _ (by omega)];exact XV.2.2
    have hD1:iQ (listed.setIfInBounds i' true) (i'+1)=false:=by rw [hDo _ (by omega)];exact XV.2.1
    rw [eKK]
    refine ⟨?_,?_,fun t=>?_,(g6.df.step adS:uO w2 F1 O2 a1.defers)⟩
    ·have e:(Js s.st (rs .top .top) (iQ listed)).H.c7 [(rS,some (.G_ (FI lA (cK ⟨.st j,kk⟩) (cK yz) r) (CJ lA r) st))]=(Js s2 (rs v1 v2) (iQ (listed.setIfInBounds i' true))).H:=by
      funext q'
      show _=xU (iQ (listed.setIfInBounds i' true)) s2.H (rs v1 v2) q'
      rw [adR _ _ _ _ _ hD2]
      by_cases e:q'=rS
      ·subst e
       rw [acs,Ya]
       simp only [Hp.c7,if_true]
       rw [KI]
      ·rw [afg q' e]
       simp only [Hp.c7,if_neg e]
       show xU (iQ listed) s.st.H (rs .top .top) q'=_
       rw [adR _ _ _ _ _ XV.2.2]
     rw [e] at hhr
     exact hhr
    ·show (a1.put (some d1) _).tmps.size=s.nt
     have:(a1.put (some d1) (.tuple #[v0,goInt (st:Nat)])).tmps.size=a1.tmps.size:=by simp [Act.put]
     rw [this];exact g6.nt
    ·show VR w2 F1 Kj _ (zy (iQ (listed.setIfInBounds i' true)) s2.tm (rs v1 v2) t) _
     simp only [rs,zy,List.length_cons,HF,hD2,hD1,aff,Bool.false_and,Bool.true_and,Ok]
     have hold:=(g6.tm t).step g6.hr adS fun _ h=>h
     have hold:VR w2 F1 Kj (kD (iQ listed) s.N (rs .top .top)) (zy (iQ listed) s.st.tm (rs .top .top) t) (a1.tmps.getD t undef):=hold
     simp only [rs,zy,List.length_cons,HF,XV.1,XV.2.1,XV.2.2,Bool.false_and] at hold
     cases e:Nat.beq d1 t with
     | true=>
      have e:=Nat.eq_of_beq_eq_true e
      subst e
      have:(a1.put (some d1) (.tuple #[v0,goInt (st:Nat)])).tmps.getD d1 undef=.tuple #[v0,goInt (st:Nat)]:=by simp [Act.put,afh]
      rw [this]
      exact .Le (.cons (.top _) (.cons (.int _ _) .nil))
     | false=>
      have o8:=Nat.ne_of_beq_eq_false e
      have:(a1.put (some d1) (.tuple #[v0,goInt (st:Nat)])).tmps.getD t undef=a1.tmps.getD t undef:=by simp [Act.put,Array.getElem?_setIfInBounds_ne o8]
      rw [this]
      have e3:zy (iQ (listed.setIfInBounds i' true)) s2.tm q t=zy (iQ listed) s.st.tm q t:=sV fun j2 e' S6 _=>hDo j2 (by have:=iP S6;omega)
      simp only
      rw [e3]
      exact hold
  ·exfalso
   have h1:=hBi p T8
   rw [XV.1] at h1;cases h1
  ·exfalso
   have h1:=hBi p (mC p (by omega))
   rw [XV.1] at h1;cases h1
 ·rintro w' F' O' bB b7 a' ⟨D,XV,hD⟩
  have:=hD p (by omega)
  rw [XV.1] at this;cases this
 ·rw [show (⟨ops⟩:Array Oper).size=ops.length from rfl,emp]
  have:Js s.st (rs .top .top) (fun _=>false)=s.st:=by simp only [Js,eT,eH]
  rw [this]
  have e:kD (fun _=>false) s.st.N (rs .top .top)=below s.N:=eK _
  rw [e]
  exact { hr:=hs.hr.drew _,nt:=hs.nt,tm:=fun t=>(hs.tm t).drew _,df:=hs.df.same fun _ _=>rfl }
end Go.Proofs.YtljfmaaadnoggaaGreatDoor.cU
