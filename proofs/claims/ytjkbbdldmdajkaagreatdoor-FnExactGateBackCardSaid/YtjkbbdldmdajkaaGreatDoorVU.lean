/- A region whose order Go leaves open: what the order alone asks. No condition. -/
import Derived.Test.YtjkbbdldmdajkaaGreatDoorVT
namespace Go.Proofs.YtjkbbdldmdajkaaGreatDoor.c_
open Go Go.RowKit
variable {w w' xk:World} {F F' Bs O O' v8:Nat→Prop} {μ bC lG:Nat→Nat} {K K' EF:Nat→Prop} {H H' H'':Hp} {ft bZ:Nat→Nat→Prop} {P:Program}
structure RE where
 d:Option Nat
 v:AV
 up:List (Nat×Option jV)
 N:Nat
 k:Nat
def OX (d:Option Nat) (t:Nat):Bool:=
 match d with
 | some d=>Nat.beq d t
 | none=>false
theorem Ab {d:Option Nat} {t:Nat}:OX d t=true↔d=some t:=by
 cases d with
 | none=>simp [OX]
 | some d=>exact ⟨fun h=>by rw [Nat.eq_of_beq_eq_true h],fun h=>by cases h;simp [OX]⟩
def y8 (up:List (Nat×Option jV)) (id:Nat):Bool:=up.any fun p=>Nat.beq p.1 id
theorem uQ {up:List (Nat×Option jV)} {id:Nat}:y8 up id=true↔id∈up.map (·.1):=by
 simp only [y8,List.any_eq_true,List.mem_map];constructor
 ·rintro ⟨p,h1,h2⟩;exact ⟨p,h1,Nat.eq_of_beq_eq_true h2⟩
 ·rintro ⟨p,h1,h2⟩;exact ⟨p,h1,by simp [h2]⟩
def AA (D:Nat→Bool) (s0:Nat→AV):List RE→Nat→AV
 | [],t=>s0 t
 | e::r,t=>match D r.length&&OX e.d t with
  | true=>e.v
  | false=>AA D s0 r t
def y9 (D:Nat→Bool) (H0:Hp):List RE→Hp
 | [],id=>H0 id
 | e::r,id=>match D r.length&&y8 e.up id with
  | true=>Hp.dh H0 e.up id
  | false=>y9 D H0 r id
def kD (D:Nat→Bool) (N0:Nat):List RE→Nat→Prop
 | [],id=>id < N0
 | e::r,id=>kD D N0 r id∨(D r.length=true∧e.N≤id∧id < e.N+e.k)
def Js (s:fT) (rs:List RE) (D:Nat→Bool):fT:=⟨s.nt,s.N,AA D s.tm rs,y9 D s.H rs⟩
def eU:List RE→Nat→Option RE
 | [],_=>none
 | e::r,j=>if j=r.length then some e else eU r j
theorem jH:∀ {rs:List RE} {j:Nat} {e:RE},eU rs j=some e→j < rs.length
 | [],_,_,h=>by cases h
 | x::r,j,e,h=>by
  simp only [eU] at h;split at h
  ·simp [*]
  ·have:=jH h;simp;omega
theorem uR {s0:Nat→AV} {t:Nat} {D D':Nat→Bool}:∀ {rs:List RE},(∀ j e,eU rs j=some e→e.d=some t→D j=D' j)→AA D s0 rs t=AA D' s0 rs t
 | [],_=>rfl
 | e::r,h=>by
  simp only [AA];have ih:AA D s0 r t=AA D' s0 r t:=uR fun j e' hj hd=>h j e' (by
   have:=jH hj;simp only [eU];rw [if_neg (by omega)];exact hj) hd
  cases h1:OX e.d t with
  | true=>
   rw [h r.length e (by simp [eU]) (Ab.1 h1),ih]
  | false=>simp only [Bool.and_false];exact ih
theorem BC {H0:Hp} {id:Nat} {D D':Nat→Bool}:∀ {rs:List RE},(∀ j e,eU rs j=some e→id∈e.up.map (·.1)→D j=D' j)→y9 D H0 rs id=y9 D' H0 rs id
 | [],_=>rfl
 | e::r,h=>by
  simp only [y9];have ih:y9 D H0 r id=y9 D' H0 r id:=BC fun j e' hj hd=>h j e' (by
   have:=jH hj;simp only [eU];rw [if_neg (by omega)];exact hj) hd
  cases h1:y8 e.up id with
  | true=>rw [h r.length e (by simp [eU]) (uQ.1 h1),ih]
  | false=>simp only [Bool.and_false];exact ih
def YC (q rs:List RE):Prop:=∃ p,rs=p++q
theorem Ub {q:List RE}:∀ {p:List RE} {j:Nat},j < q.length→eU (p++q) j=eU q j
 | [],_,_=>rfl
 | x::p,j,h=>by
  simp only [List.cons_append,eU];rw [if_neg (by simp;omega)];exact Ub h
theorem WW {s0:Nat→AV} {t:Nat} {D:Nat→Bool} {q:List RE}:∀ {p:List RE},(∀ j,q.length≤j→D j=false)→AA D s0 (p++q) t=AA D s0 q t
 | [],_=>rfl
 | x::p,h=>by
  simp only [List.cons_append,AA];rw [h _ (by simp)];exact WW h
theorem WX {H0:Hp} {id:Nat} {D:Nat→Bool} {q:List RE}:∀ {p:List RE},(∀ j,q.length≤j→D j=false)→y9 D H0 (p++q) id=y9 D H0 q id
 | [],_=>rfl
 | x::p,h=>by
  simp only [List.cons_append,y9];rw [h _ (by simp)];exact WX h
def more (D:Nat→Bool) (i:Nat):Nat→Bool:=fun j=>if j=i then true else D j
theorem Uc {s0:Nat→AV} {D:Nat→Bool} {i:Nat} {e:RE}:∀ {rs:List RE},eU rs i=some e→(∀ j e',eU rs j=some e'→i < j→D j=true→e'.d=e.d→e.d=none)→D i=false→∀ t,
  AA (more D i) s0 rs t=(match OX e.d t with | true=>e.v | false=>AA D s0 rs t)
 | [],h,_,_,_=>by cases h
 | x::r,h,hb,hi,t=>by
  simp only [eU] at h;simp only [AA];split at h
  ·rename_i hl;cases h;subst hl;have e1:AA (more D r.length) s0 r t=AA D s0 r t:=uR fun j e' hj _=>by
    have:=jH hj;simp only [more];rw [if_neg (by omega)]
   simp only [more,if_true,Bool.true_and,hi,Bool.false_and];rw [e1]
  ·rename_i hl;have dQ:=jH h;have ih:=Uc (s0:=s0) h (fun j e' hj JK hd hde=>hb j e' (by
    have:=jH hj;simp only [eU];rw [if_neg (by omega)];exact hj) JK hd hde) hi t
   have qL:r.length≠i:=fun e=>hl e.symm;have e0:more D i r.length=D r.length:=by simp [more,qL]
   rw [e0,ih];cases h1:D r.length&&OX x.d t with
   | false=>rfl
   | true=>
    simp only [Bool.and_eq_true] at h1;cases h2:OX e.d t with
    | false=>rfl
    | true=>
     have hx:=Ab.1 h1.2;have he:=Ab.1 h2;have:=hb r.length x (by simp [eU]) dQ h1.1 (hx.trans he.symm);rw [he] at this;cases this
theorem Ov {H0:Hp} {D:Nat→Bool} {i:Nat} {e:RE}:∀ {rs:List RE},eU rs i=some e→(∀ j e' id,eU rs j=some e'→i < j→D j=true→id∈e'.up.map (·.1)→id ∉ e.up.map (·.1))→D i=false→∀ id,
  y9 (more D i) H0 rs id=(match y8 e.up id with | true=>Hp.dh H0 e.up id | false=>y9 D H0 rs id)
 | [],h,_,_,_=>by cases h
 | x::r,h,hb,hi,id=>by
  simp only [eU] at h;simp only [y9];split at h
  ·rename_i hl;cases h;subst hl;have e1:y9 (more D r.length) H0 r id=y9 D H0 r id:=BC fun j e' hj _=>by
    have:=jH hj;simp only [more];rw [if_neg (by omega)]
   simp only [more,if_true,Bool.true_and,hi,Bool.false_and];rw [e1]
  ·rename_i hl;have dQ:=jH h;have ih:=Ov (H0:=H0) h (fun j e' id hj JK hd bY=>hb j e' id (by
    have:=jH hj;simp only [eU];rw [if_neg (by omega)];exact hj) JK hd bY) hi id
   have qL:r.length≠i:=fun e=>hl e.symm;have e0:more D i r.length=D r.length:=by simp [more,qL]
   rw [e0,ih];cases h1:D r.length&&y8 x.up id with
   | false=>rfl
   | true=>
    simp only [Bool.and_eq_true] at h1;cases h2:y8 e.up id with
    | false=>rfl
    | true=>exact absurd (uQ.1 h2) (hb r.length x id (by simp [eU]) dQ h1.1 (uQ.1 h1.2))
theorem Mq {N0:Nat} {D:Nat→Bool} {i:Nat} {e:RE}:∀ {rs:List RE},eU rs i=some e→∀ id,kD (more D i) N0 rs id↔(kD D N0 rs id∨(e.N≤id∧id < e.N+e.k))
 | [],h,_=>by cases h
 | x::r,h,id=>by
  simp only [eU] at h;simp only [kD];split at h
  ·rename_i hl;cases h;subst hl;have e1:∀ {q:List RE},q.length≤r.length→(kD (more D r.length) N0 q id↔kD D N0 q id):=by
    intro q
    induction q with
    | nil=>intro _;exact Iff.rfl
    | cons y q ih=>
     intro hq;simp only [List.length_cons] at hq;simp only [kD];rw [ih (by omega)];simp only [more];rw [if_neg (by omega)]
   rw [e1 (Nat.le_refl _)];simp only [more,if_true,true_and];constructor
   ·rintro (h | h)
    ·exact .inl (.inl h)
    ·exact .inr h
   ·rintro ((h | h) | h)
    ·exact .inl h
    ·exact .inr h.2
    ·exact .inr h
  ·rename_i hl;have qL:r.length≠i:=fun e=>hl e.symm;rw [Mq h id];simp only [more];rw [if_neg qL];constructor
   ·rintro ((h | h) | h)
    ·exact .inl (.inl h)
    ·exact .inr h
    ·exact .inl (.inr h)
   ·rintro ((h | h) | h)
    ·exact .inl (.inl h)
    ·exact .inr h
    ·exact .inl (.inr h)
def bit (B:Array Nat) (i j:Nat):Bool:=(B.getD i 0).testBit j
def inc (B:Array Nat) (i j:Nat):Bool:=!(Nat.beq i j)&&!bit B i j&&!bit B j i
def xp (fj:List (Nat×List Nat)) (i:Nat):List Nat:=
 match fj with
 | []=>[]
 | (j,l)::r=>match Nat.beq i j with
  | true=>l
  | false=>xp r i
def H7 (B:Array Nat) (i:Nat) (t:Nat):Nat→List Oper→Bool
 | _,[]=>false
 | j,o::r=>(OX o.dst t&&inc B i j)||H7 B i t (j+1) r
def Gs (B:Array Nat) (i:Nat) (id:Nat):List (Nat×List Nat)→Bool
 | []=>false
 | (j,l)::r=>((l.any fun x=>Nat.beq x id)&&inc B i j)||Gs B i id r
def tl (ops:List Oper) (B:Array Nat) (fj:List (Nat×List Nat)):Bool:=
 go1 0 ops&&fj.all (fun p=>fj.all fun q=>!(q.1.blt p.1)||!(p.2.any fun x=>q.2.any fun y=>Nat.beq x y)||bit B p.1 q.1)
where
 go1:Nat→List Oper→Bool
  | _,[]=>true
  | i,o::r=>o.after.toList.all (fun e=>!Region.binds .any e||e.on.blt i)&&(B.getD i 0).blt (2 ^ i)&&go3 i o.after.toList i&&go2 i o 0 ops&&go1 (i+1) r
 go2 (i:Nat) (o:Oper):Nat→List Oper→Bool
  | _,[]=>true
  | j,p::r=>(!(j.blt i)||!(match o.dst with | some t=>OX p.dst t | none=>false)||bit B i j)&&go2 i o (j+1) r
 go3 (i:Nat) (es:List Edge):Nat→Bool
  | 0=>true
  | m+1=>(!bit B i m||es.any fun e=>Region.binds .any e&&(Nat.beq e.on m||bit B e.on m))&&go3 i es m
def Y6 (N0:Nat):List RE→Nat→Prop
 | [],N=>N=N0
 | e::r,N=>Y6 N0 r e.N∧N=e.N+e.k
theorem aaV {N0:Nat} {D:Nat→Bool}:∀ {rs:List RE} {N id:Nat},Y6 N0 rs N→kD D N0 rs id→id < N
 | [],N,id,h,hk=>by simp only [Y6] at h;subst h;exact hk
 | e::r,N,id,h,hk=>by
  obtain ⟨h1,rfl⟩:=h;rcases hk with hk | ⟨_,_,hk⟩
  ·have:=aaV h1 hk;omega
  ·exact hk
theorem aaW {N0:Nat} {i:Nat} {e:RE}:∀ {rs:List RE} {N:Nat},Y6 N0 rs N→eU rs i=some e→e.N+e.k≤N
 | [],N,_,h=>by cases h
 | x::r,N,h,hr=>by
  obtain ⟨h1,rfl⟩:=h;simp only [eU] at hr;split at hr
  ·cases hr;exact Nat.le_refl _
  ·have:=aaW h1 hr;omega
theorem Qq {N0:Nat} {D:Nat→Bool} {i:Nat} {e:RE} (hi:D i=false):∀ {rs:List RE} {N id:Nat},Y6 N0 rs N→eU rs i=some e→kD D N0 rs id→¬ (e.N≤id∧id < e.N+e.k)
 | [],N,id,_,h,_=>by cases h
 | x::r,N,id,h,hr,hk=>by
  obtain ⟨h1,rfl⟩:=h;simp only [eU] at hr;split at hr
  ·rename_i hl;cases hr;subst hl;rcases hk with hk | ⟨hd,_⟩
   ·have:=aaV h1 hk;omega
   ·rw [hi] at hd;cases hd
  ·rcases hk with hk | ⟨_,hk,_⟩
   ·exact Qq hi h1 hr hk
   ·have:=aaW h1 hr;omega
theorem WY {N0:Nat} {D:Nat→Bool}:∀ {rs:List RE} {N:Nat},Y6 N0 rs N→(∀ j,j < rs.length→D j=true)→∀ id,kD D N0 rs id↔id < N
 | [],N,h,_,id=>by simp only [Y6] at h;subst h;exact Iff.rfl
 | e::r,N,h,hd,id=>by
  obtain ⟨h1,rfl⟩:=h;simp only [kD];rw [WY h1 (fun j hj=>hd j (by simp;omega)),hd r.length (by simp)];simp only [true_and];omega
theorem Jv {ops:List Oper} {B:Array Nat}:∀ {l:List Oper} {i0:Nat},tl.go1 ops B i0 l=true→∀ i o,l[i]?=some o→
  (∀ e,e∈o.after→Region.binds .any e=true→e.on < i0+i)∧B.getD (i0+i) 0 < 2 ^ (i0+i)∧tl.go3 B (i0+i) o.after.toList (i0+i)=true∧tl.go2 B (i0+i) o 0 ops=true
 | [],i0,_,i,o,h=>by simp at h
 | x::r,i0,hg,i,o,h=>by
  simp only [tl.go1,Bool.and_eq_true] at hg;obtain ⟨⟨⟨⟨h1,h2⟩,h3⟩,h4⟩,h5⟩:=hg;cases i with
  | zero=>
   simp only [List.getElem?_cons_zero,Option.some.injEq] at h;subst h;refine ⟨fun e he hb=>?_,Nat.le_of_ble_eq_true h2,h3,h4⟩;simp only [List.all_eq_true] at h1;have:=h1 e (by simpa using he);rw [hb] at this;exact Nat.le_of_ble_eq_true this
  | succ i=>
   have:=Jv h5 i o (by simpa using h);rwa [show i0+1+i=i0+(i+1) by omega] at this
theorem Ud {B:Array Nat} {i:Nat} {o:Oper}:∀ {l:List Oper} {j0:Nat},tl.go2 B i o j0 l=true→∀ j p,l[j]?=some p→j0+j < i→∀ t,o.dst=some t→p.dst=some t→bit B i (j0+j)=true
 | [],j0,_,j,p,h=>by simp at h
 | x::r,j0,hg,j,p,h=>by
  simp only [tl.go2,Bool.and_eq_true] at hg;intro hj t ht hp;cases j with
  | zero=>
   simp only [List.getElem?_cons_zero,Option.some.injEq] at h;subst h;have:=hg.1;rw [ht] at this;simp only [Nat.add_zero] at hj ⊢;have h1:j0.blt i=true:=Nat.ble_eq_true_of_le hj;rw [h1] at this;have h2:OX x.dst t=true:=Ab.2 hp;simp only [h2] at this;simpa using this
  | succ j=>
   have:=Ud hg.2 j p (by simpa using h) (by omega) t ht hp;rwa [show j0+1+j=j0+(j+1) by omega] at this
theorem Ue {B:Array Nat} {i:Nat} {es:List Edge}:∀ {m:Nat},tl.go3 B i es m=true→∀ j,j < m→bit B i j=true→∃ e,e∈es∧Region.binds .any e=true∧(e.on=j∨bit B e.on j=true)
 | 0,_,j,hj,_=>by omega
 | m+1,h,j,hj,hb=>by
  simp only [tl.go3,Bool.and_eq_true] at h;by_cases e:j=m
  ·subst e;have:=h.1;rw [hb] at this;simp only [Bool.not_true,Bool.false_or,List.any_eq_true,Bool.and_eq_true,Bool.or_eq_true] at this;obtain ⟨e,h1,h2,h3⟩:=this;exact ⟨e,h1,h2,h3.imp Nat.eq_of_beq_eq_true id⟩
  ·exact Ue h.2 j (by omega) hb
theorem CI {B:Array Nat} {i j:Nat} (h:B.getD i 0 < 2 ^ i) (hb:bit B i j=true):j < i:=by
 rcases Nat.lt_or_ge j i with h1 | h1
 ·exact h1
 ·have:=Nat.testBit_lt_two_pow (Nat.lt_of_lt_of_le h (Nat.pow_le_pow_right (by omega) h1));unfold bit at hb;rw [this] at hb;cases hb
theorem Fx {fj:List (Nat×List Nat)} {i id:Nat} (h:id∈xp fj i):∃ p,p∈fj∧p.1=i∧id∈p.2:=by
 induction fj with
 | nil=>cases h
 | cons p r ih=>
  obtain ⟨j,l⟩:=p;simp only [xp] at h;split at h
  ·rename_i e;exact ⟨(j,l),by simp,(Nat.eq_of_beq_eq_true e).symm,h⟩
  ·obtain ⟨p,h1,h2,h3⟩:=ih h;exact ⟨p,by simp [h1],h2,h3⟩
theorem H8 {B:Array Nat} {i t:Nat}:∀ {l:List Oper} {j0:Nat},H7 B i t j0 l=false→∀ j o,l[j]?=some o→o.dst=some t→inc B i (j0+j)=false
 | [],j0,_,j,o,h,_=>by simp at h
 | x::r,j0,hg,j,o,h,hd=>by
  simp only [H7,Bool.or_eq_false_iff] at hg;cases j with
  | zero=>
   simp only [List.getElem?_cons_zero,Option.some.injEq] at h;subst h;have h1:=hg.1;rw [Ab.2 hd] at h1;simpa using h1
  | succ j=>
   have:=H8 hg.2 j o (by simpa using h) hd;rwa [show j0+1+j=j0+(j+1) by omega] at this
theorem H9 {B:Array Nat} {i id:Nat}:∀ {fj:List (Nat×List Nat)},Gs B i id fj=false→∀ p,p∈fj→id∈p.2→inc B i p.1=false
 | [],_,p,hp,_=>by cases hp
 | (j,l)::r,hg,p,hp,bY=>by
  simp only [Gs,Bool.or_eq_false_iff] at hg;rcases List.mem_cons.1 hp with e | e
  ·subst e;have h1:=hg.1;have h2:(l.any fun x=>Nat.beq x id)=true:=List.any_eq_true.2 ⟨id,bY,by simp⟩;rw [h2] at h1;simpa using h1
  ·exact H9 hg.2 p e bY
def jI (listed:Array Bool):Nat→Bool:=fun j=>listed.getD j false
theorem Jw {listed:Array Bool} {i:Nat} (hi:i < listed.size):jI (listed.setIfInBounds i true)=more (jI listed) i:=by
 funext j;simp only [jI,more];by_cases e:j=i
 ·subst e;simp [hi]
 ·rw [if_neg e,getD_set_ne false (Ne.symm e)]
def unl (listed:Array Bool):Nat:=listed.toList.countP (fun b=>!b)
theorem countP_set:∀ (l:List Bool) (i:Nat),l[i]?=some false→l.countP (fun b=>!b)=(l.set i true).countP (fun b=>!b)+1
 | [],i,h=>by simp at h
 | x::l,0,h=>by
  simp only [List.getElem?_cons_zero,Option.some.injEq] at h;subst h;simp
 | x::l,i+1,h=>by
  have ih:=countP_set l i (by simpa using h);simp only [List.set_cons_succ,List.countP_cons,ih];omega
theorem R6 {listed:Array Bool} {i:Nat} (hi:i < listed.size) (hf:jI listed i=false):unl listed=unl (listed.setIfInBounds i true)+1:=by
 unfold unl;have h1:listed.toList[i]?=some false:=by
  simp only [jI] at hf;simp [hi] at hf ⊢;exact hf
 rw [Array.toList_setIfInBounds];exact countP_set _ _ h1
end Go.Proofs.YtjkbbdldmdajkaaGreatDoor.c_
