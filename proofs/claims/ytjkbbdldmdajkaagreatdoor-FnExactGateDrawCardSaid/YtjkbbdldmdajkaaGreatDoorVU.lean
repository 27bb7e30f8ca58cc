/- A region whose order Go leaves open: what the order alone asks. No condition. -/
import Derived.Test.YtjkbbdldmdajkaaGreatDoorVT
namespace Go.Proofs.YtjkbbdldmdajkaaGreatDoor.c5
open Go Go.RowKit
variable {w w' ss:World} {F F' zT O O' uo:Nat→Prop} {μ aZ jE:Nat→Nat} {K K' C9:Nat→Prop} {H H' H'':Hp} {ft bX:Nat→Nat→Prop} {P:Program}
structure RE where
 d:Option Nat
 v:AV
 up:List (Nat×Option jz)
 N:Nat
 k:Nat
def Om (d:Option Nat) (t:Nat):Bool:=
 match d with
 | some d=>Nat.beq d t
 | none=>false
theorem zm {d:Option Nat} {t:Nat}:Om d t=true↔d=some t:=by
 cases d with
 | none=>simp [Om]
 | some d=>exact ⟨fun h=>by rw [Nat.eq_of_beq_eq_true h],fun h=>by cases h;simp [Om]⟩
def yh (up:List (Nat×Option jz)) (id:Nat):Bool:=up.any fun p=>Nat.beq p.1 id
theorem tM {up:List (Nat×Option jz)} {id:Nat}:yh up id=true↔id∈up.map (·.1):=by
 simp only [yh,List.any_eq_true,List.mem_map];constructor
 ·rintro ⟨p,h1,h2⟩;exact ⟨p,h1,Nat.eq_of_beq_eq_true h2⟩
 ·rintro ⟨p,h1,h2⟩;exact ⟨p,h1,by simp [h2]⟩
def zO (D:Nat→Bool) (s0:Nat→AV):List RE→Nat→AV
 | [],t=>s0 t
 | e::r,t=>match D r.length&&Om e.d t with
  | true=>e.v
  | false=>zO D s0 r t
def yi (D:Nat→Bool) (H0:Hp):List RE→Hp
 | [],id=>H0 id
 | e::r,id=>match D r.length&&yh e.up id with
  | true=>Hp.c_ H0 e.up id
  | false=>yi D H0 r id
def kD (D:Nat→Bool) (N0:Nat):List RE→Nat→Prop
 | [],id=>id < N0
 | e::r,id=>kD D N0 r id∨(D r.length=true∧e.N≤id∧id < e.N+e.k)
def Js (s:fG) (rs:List RE) (D:Nat→Bool):fG:=⟨s.nt,s.N,zO D s.tm rs,yi D s.H rs⟩
def eA:List RE→Nat→Option RE
 | [],_=>none
 | e::r,j=>if j=r.length then some e else eA r j
theorem jq:∀ {rs:List RE} {j:Nat} {e:RE},eA rs j=some e→j < rs.length
 | [],_,_,h=>by cases h
 | x::r,j,e,h=>by
  simp only [eA] at h;split at h
  ·simp [*]
  ·have:=jq h;simp;omega
theorem tN {s0:Nat→AV} {t:Nat} {D D':Nat→Bool}:∀ {rs:List RE},(∀ j e,eA rs j=some e→e.d=some t→D j=D' j)→zO D s0 rs t=zO D' s0 rs t
 | [],_=>rfl
 | e::r,h=>by
  simp only [zO];have ih:zO D s0 r t=zO D' s0 r t:=tN fun j e' hj hd=>h j e' (by
   have:=jq hj;simp only [eA];rw [if_neg (by omega)];exact hj) hd
  cases h1:Om e.d t with
  | true=>
   rw [h r.length e (by simp [eA]) (zm.1 h1),ih]
  | false=>simp only [Bool.and_false];exact ih
theorem AU {H0:Hp} {id:Nat} {D D':Nat→Bool}:∀ {rs:List RE},(∀ j e,eA rs j=some e→id∈e.up.map (·.1)→D j=D' j)→yi D H0 rs id=yi D' H0 rs id
 | [],_=>rfl
 | e::r,h=>by
  simp only [yi];have ih:yi D H0 r id=yi D' H0 r id:=AU fun j e' hj hd=>h j e' (by
   have:=jq hj;simp only [eA];rw [if_neg (by omega)];exact hj) hd
  cases h1:yh e.up id with
  | true=>rw [h r.length e (by simp [eA]) (tM.1 h1),ih]
  | false=>simp only [Bool.and_false];exact ih
def Yf (q rs:List RE):Prop:=∃ p,rs=p++q
theorem TE {q:List RE}:∀ {p:List RE} {j:Nat},j < q.length→eA (p++q) j=eA q j
 | [],_,_=>rfl
 | x::p,j,h=>by
  simp only [List.cons_append,eA];rw [if_neg (by simp;omega)];exact TE h
theorem WA {s0:Nat→AV} {t:Nat} {D:Nat→Bool} {q:List RE}:∀ {p:List RE},(∀ j,q.length≤j→D j=false)→zO D s0 (p++q) t=zO D s0 q t
 | [],_=>rfl
 | x::p,h=>by
  simp only [List.cons_append,zO];rw [h _ (by simp)];exact WA h
theorem WB {H0:Hp} {id:Nat} {D:Nat→Bool} {q:List RE}:∀ {p:List RE},(∀ j,q.length≤j→D j=false)→yi D H0 (p++q) id=yi D H0 q id
 | [],_=>rfl
 | x::p,h=>by
  simp only [List.cons_append,yi];rw [h _ (by simp)];exact WB h
def more (D:Nat→Bool) (i:Nat):Nat→Bool:=fun j=>if j=i then true else D j
theorem TF {s0:Nat→AV} {D:Nat→Bool} {i:Nat} {e:RE}:∀ {rs:List RE},eA rs i=some e→(∀ j e',eA rs j=some e'→i < j→D j=true→e'.d=e.d→e.d=none)→D i=false→∀ t,
  zO (more D i) s0 rs t=(match Om e.d t with | true=>e.v | false=>zO D s0 rs t)
 | [],h,_,_,_=>by cases h
 | x::r,h,hb,hi,t=>by
  simp only [eA] at h;simp only [zO];split at h
  ·rename_i hl;cases h;subst hl;have e1:zO (more D r.length) s0 r t=zO D s0 r t:=tN fun j e' hj _=>by
    have:=jq hj;simp only [more];rw [if_neg (by omega)]
   simp only [more,if_true,Bool.true_and,hi,Bool.false_and];rw [e1]
  ·rename_i hl;have dY:=jq h;have ih:=TF (s0:=s0) h (fun j e' hj H_ hd hde=>hb j e' (by
    have:=jq hj;simp only [eA];rw [if_neg (by omega)];exact hj) H_ hd hde) hi t
   have oV:r.length≠i:=fun e=>hl e.symm;have e0:more D i r.length=D r.length:=by simp [more,oV]
   rw [e0,ih];cases h1:D r.length&&Om x.d t with
   | false=>rfl
   | true=>
    simp only [Bool.and_eq_true] at h1;cases h2:Om e.d t with
    | false=>rfl
    | true=>
     have hx:=zm.1 h1.2;have he:=zm.1 h2;have:=hb r.length x (by simp [eA]) dY h1.1 (hx.trans he.symm);rw [he] at this;cases this
theorem NS {H0:Hp} {D:Nat→Bool} {i:Nat} {e:RE}:∀ {rs:List RE},eA rs i=some e→(∀ j e' id,eA rs j=some e'→i < j→D j=true→id∈e'.up.map (·.1)→id ∉ e.up.map (·.1))→D i=false→∀ id,
  yi (more D i) H0 rs id=(match yh e.up id with | true=>Hp.c_ H0 e.up id | false=>yi D H0 rs id)
 | [],h,_,_,_=>by cases h
 | x::r,h,hb,hi,id=>by
  simp only [eA] at h;simp only [yi];split at h
  ·rename_i hl;cases h;subst hl;have e1:yi (more D r.length) H0 r id=yi D H0 r id:=AU fun j e' hj _=>by
    have:=jq hj;simp only [more];rw [if_neg (by omega)]
   simp only [more,if_true,Bool.true_and,hi,Bool.false_and];rw [e1]
  ·rename_i hl;have dY:=jq h;have ih:=NS (H0:=H0) h (fun j e' id hj H_ hd bZ=>hb j e' id (by
    have:=jq hj;simp only [eA];rw [if_neg (by omega)];exact hj) H_ hd bZ) hi id
   have oV:r.length≠i:=fun e=>hl e.symm;have e0:more D i r.length=D r.length:=by simp [more,oV]
   rw [e0,ih];cases h1:D r.length&&yh x.up id with
   | false=>rfl
   | true=>
    simp only [Bool.and_eq_true] at h1;cases h2:yh e.up id with
    | false=>rfl
    | true=>exact absurd (tM.1 h2) (hb r.length x id (by simp [eA]) dY h1.1 (tM.1 h1.2))
theorem LY {N0:Nat} {D:Nat→Bool} {i:Nat} {e:RE}:∀ {rs:List RE},eA rs i=some e→∀ id,kD (more D i) N0 rs id↔(kD D N0 rs id∨(e.N≤id∧id < e.N+e.k))
 | [],h,_=>by cases h
 | x::r,h,id=>by
  simp only [eA] at h;simp only [kD];split at h
  ·rename_i hl;cases h;subst hl;have e1:∀ {q:List RE},q.length≤r.length→(kD (more D r.length) N0 q id↔kD D N0 q id):=by
    intro q
    induction q with
    | nil=>intro _;exact Iff.rfl
    | cons y q ih=>
     intro hq;simp only [List.length_cons] at hq;simp only [kD];rw [ih (by omega)];simp only [more];rw [if_neg (by omega)]
   rw [e1 (Nat.le_refl _)];simp only [more,if_true,true_and];constructor
   ·rintro (h | h)
    ·exact .inl (.inl h)
    ·exact .inr h
   ·rintro ((h | h) | h)
    ·exact .inl h
    ·exact .inr h.2
    ·exact .inr h
  ·rename_i hl;have oV:r.length≠i:=fun e=>hl e.symm;rw [LY h id];simp only [more];rw [if_neg oV];constructor
   ·rintro ((h | h) | h)
    ·exact .inl (.inl h)
    ·exact .inr h
    ·exact .inl (.inr h)
   ·rintro ((h | h) | h)
    ·exact .inl (.inl h)
    ·exact .inr h
    ·exact .inl (.inr h)
def bit (B:Array Nat) (i j:Nat):Bool:=(B.getD i 0).testBit j
def inc (B:Array Nat) (i j:Nat):Bool:=!(Nat.beq i j)&&!bit B i j&&!bit B j i
def wq (eX:List (Nat×List Nat)) (i:Nat):List Nat:=
 match eX with
 | []=>[]
 | (j,l)::r=>match Nat.beq i j with
  | true=>l
  | false=>wq r i
def Hq (B:Array Nat) (i:Nat) (t:Nat):Nat→List Oper→Bool
 | _,[]=>false
 | j,o::r=>(Om o.dst t&&inc B i j)||Hq B i t (j+1) r
def FJ (B:Array Nat) (i:Nat) (id:Nat):List (Nat×List Nat)→Bool
 | []=>false
 | (j,l)::r=>((l.any fun x=>Nat.beq x id)&&inc B i j)||FJ B i id r
def sn (ops:List Oper) (B:Array Nat) (eX:List (Nat×List Nat)):Bool:=
 go1 0 ops&&eX.all (fun p=>eX.all fun q=>!(q.1.blt p.1)||!(p.2.any fun x=>q.2.any fun y=>Nat.beq x y)||bit B p.1 q.1)
where
 go1:Nat→List Oper→Bool
  | _,[]=>true
  | i,o::r=>o.after.toList.all (fun e=>!Region.binds .any e||e.on.blt i)&&(B.getD i 0).blt (2 ^ i)&&go3 i o.after.toList i&&go2 i o 0 ops&&go1 (i+1) r
 go2 (i:Nat) (o:Oper):Nat→List Oper→Bool
  | _,[]=>true
  | j,p::r=>(!(j.blt i)||!(match o.dst with | some t=>Om p.dst t | none=>false)||bit B i j)&&go2 i o (j+1) r
 go3 (i:Nat) (es:List Edge):Nat→Bool
  | 0=>true
  | m+1=>(!bit B i m||es.any fun e=>Region.binds .any e&&(Nat.beq e.on m||bit B e.on m))&&go3 i es m
def YM (N0:Nat):List RE→Nat→Prop
 | [],N=>N=N0
 | e::r,N=>YM N0 r e.N∧N=e.N+e.k
theorem aal {N0:Nat} {D:Nat→Bool}:∀ {rs:List RE} {N id:Nat},YM N0 rs N→kD D N0 rs id→id < N
 | [],N,id,h,hk=>by simp only [YM] at h;subst h;exact hk
 | e::r,N,id,h,hk=>by
  obtain ⟨h1,rfl⟩:=h;rcases hk with hk | ⟨_,_,hk⟩
  ·have:=aal h1 hk;omega
  ·exact hk
theorem aam {N0:Nat} {i:Nat} {e:RE}:∀ {rs:List RE} {N:Nat},YM N0 rs N→eA rs i=some e→e.N+e.k≤N
 | [],N,_,h=>by cases h
 | x::r,N,h,hr=>by
  obtain ⟨h1,rfl⟩:=h;simp only [eA] at hr;split at hr
  ·cases hr;exact Nat.le_refl _
  ·have:=aam h1 hr;omega
theorem PY {N0:Nat} {D:Nat→Bool} {i:Nat} {e:RE} (hi:D i=false):∀ {rs:List RE} {N id:Nat},YM N0 rs N→eA rs i=some e→kD D N0 rs id→¬ (e.N≤id∧id < e.N+e.k)
 | [],N,id,_,h,_=>by cases h
 | x::r,N,id,h,hr,hk=>by
  obtain ⟨h1,rfl⟩:=h;simp only [eA] at hr;split at hr
  ·rename_i hl;cases hr;subst hl;rcases hk with hk | ⟨hd,_⟩
   ·have:=aal h1 hk;omega
   ·rw [hi] at hd;cases hd
  ·rcases hk with hk | ⟨_,hk,_⟩
   ·exact PY hi h1 hr hk
   ·have:=aam h1 hr;omega
theorem WC {N0:Nat} {D:Nat→Bool}:∀ {rs:List RE} {N:Nat},YM N0 rs N→(∀ j,j < rs.length→D j=true)→∀ id,kD D N0 rs id↔id < N
 | [],N,h,_,id=>by simp only [YM] at h;subst h;exact Iff.rfl
 | e::r,N,h,hd,id=>by
  obtain ⟨h1,rfl⟩:=h;simp only [kD];rw [WC h1 (fun j hj=>hd j (by simp;omega)),hd r.length (by simp)];simp only [true_and];omega
theorem IW {ops:List Oper} {B:Array Nat}:∀ {l:List Oper} {i0:Nat},sn.go1 ops B i0 l=true→∀ i o,l[i]?=some o→
  (∀ e,e∈o.after→Region.binds .any e=true→e.on < i0+i)∧B.getD (i0+i) 0 < 2 ^ (i0+i)∧sn.go3 B (i0+i) o.after.toList (i0+i)=true∧sn.go2 B (i0+i) o 0 ops=true
 | [],i0,_,i,o,h=>by simp at h
 | x::r,i0,hg,i,o,h=>by
  simp only [sn.go1,Bool.and_eq_true] at hg;obtain ⟨⟨⟨⟨h1,h2⟩,h3⟩,h4⟩,h5⟩:=hg;cases i with
  | zero=>
   simp only [List.getElem?_cons_zero,Option.some.injEq] at h;subst h;refine ⟨fun e he hb=>?_,Nat.le_of_ble_eq_true h2,h3,h4⟩;simp only [List.all_eq_true] at h1;have:=h1 e (by simpa using he);rw [hb] at this;exact Nat.le_of_ble_eq_true this
  | succ i=>
   have:=IW h5 i o (by simpa using h);rwa [show i0+1+i=i0+(i+1) by omega] at this
theorem TG {B:Array Nat} {i:Nat} {o:Oper}:∀ {l:List Oper} {j0:Nat},sn.go2 B i o j0 l=true→∀ j p,l[j]?=some p→j0+j < i→∀ t,o.dst=some t→p.dst=some t→bit B i (j0+j)=true
 | [],j0,_,j,p,h=>by simp at h
 | x::r,j0,hg,j,p,h=>by
  simp only [sn.go2,Bool.and_eq_true] at hg;intro hj t ht hp;cases j with
  | zero=>
   simp only [List.getElem?_cons_zero,Option.some.injEq] at h;subst h;have:=hg.1;rw [ht] at this;simp only [Nat.add_zero] at hj ⊢;have h1:j0.blt i=true:=Nat.ble_eq_true_of_le hj;rw [h1] at this;have h2:Om x.dst t=true:=zm.2 hp;simp only [h2] at this;simpa using this
  | succ j=>
   have:=TG hg.2 j p (by simpa using h) (by omega) t ht hp;rwa [show j0+1+j=j0+(j+1) by omega] at this
theorem TH {B:Array Nat} {i:Nat} {es:List Edge}:∀ {m:Nat},sn.go3 B i es m=true→∀ j,j < m→bit B i j=true→∃ e,e∈es∧Region.binds .any e=true∧(e.on=j∨bit B e.on j=true)
 | 0,_,j,hj,_=>by omega
 | m+1,h,j,hj,hb=>by
  simp only [sn.go3,Bool.and_eq_true] at h;by_cases e:j=m
  ·subst e;have:=h.1;rw [hb] at this;simp only [Bool.not_true,Bool.false_or,List.any_eq_true,Bool.and_eq_true,Bool.or_eq_true] at this;obtain ⟨e,h1,h2,h3⟩:=this;exact ⟨e,h1,h2,h3.imp Nat.eq_of_beq_eq_true id⟩
  ·exact TH h.2 j (by omega) hb
theorem B1 {B:Array Nat} {i j:Nat} (h:B.getD i 0 < 2 ^ i) (hb:bit B i j=true):j < i:=by
 rcases Nat.lt_or_ge j i with h1 | h1
 ·exact h1
 ·have:=Nat.testBit_lt_two_pow (Nat.lt_of_lt_of_le h (Nat.pow_le_pow_right (by omega) h1));unfold bit at hb;rw [this] at hb;cases hb
theorem ES {eX:List (Nat×List Nat)} {i id:Nat} (h:id∈wq eX i):∃ p,p∈eX∧p.1=i∧id∈p.2:=by
 induction eX with
 | nil=>cases h
 | cons p r ih=>
  obtain ⟨j,l⟩:=p;simp only [wq] at h;split at h
  ·rename_i e;exact ⟨(j,l),by simp,(Nat.eq_of_beq_eq_true e).symm,h⟩
  ·obtain ⟨p,h1,h2,h3⟩:=ih h;exact ⟨p,by simp [h1],h2,h3⟩
theorem Hr {B:Array Nat} {i t:Nat}:∀ {l:List Oper} {j0:Nat},Hq B i t j0 l=false→∀ j o,l[j]?=some o→o.dst=some t→inc B i (j0+j)=false
 | [],j0,_,j,o,h,_=>by simp at h
 | x::r,j0,hg,j,o,h,hd=>by
  simp only [Hq,Bool.or_eq_false_iff] at hg;cases j with
  | zero=>
   simp only [List.getElem?_cons_zero,Option.some.injEq] at h;subst h;have h1:=hg.1;rw [zm.2 hd] at h1;simpa using h1
  | succ j=>
   have:=Hr hg.2 j o (by simpa using h) hd;rwa [show j0+1+j=j0+(j+1) by omega] at this
theorem Hs {B:Array Nat} {i id:Nat}:∀ {eX:List (Nat×List Nat)},FJ B i id eX=false→∀ p,p∈eX→id∈p.2→inc B i p.1=false
 | [],_,p,hp,_=>by cases hp
 | (j,l)::r,hg,p,hp,bZ=>by
  simp only [FJ,Bool.or_eq_false_iff] at hg;rcases List.mem_cons.1 hp with e | e
  ·subst e;have h1:=hg.1;have h2:(l.any fun x=>Nat.beq x id)=true:=List.any_eq_true.2 ⟨id,bZ,by simp⟩;rw [h2] at h1;simpa using h1
  ·exact Hs hg.2 p e bZ
def jr (listed:Array Bool):Nat→Bool:=fun j=>listed.getD j false
theorem IX {listed:Array Bool} {i:Nat} (hi:i < listed.size):jr (listed.setIfInBounds i true)=more (jr listed) i:=by
 funext j;simp only [jr,more];by_cases e:j=i
 ·subst e;simp [hi]
 ·rw [if_neg e,getD_set_ne false (Ne.symm e)]
def unl (listed:Array Bool):Nat:=listed.toList.countP (fun b=>!b)
theorem countP_set:∀ (l:List Bool) (i:Nat),l[i]?=some false→l.countP (fun b=>!b)=(l.set i true).countP (fun b=>!b)+1
 | [],i,h=>by simp at h
 | x::l,0,h=>by
  simp only [List.getElem?_cons_zero,Option.some.injEq] at h;subst h;simp
 | x::l,i+1,h=>by
  have ih:=countP_set l i (by simpa using h);simp only [List.set_cons_succ,List.countP_cons,ih];omega
theorem Ru {listed:Array Bool} {i:Nat} (hi:i < listed.size) (hf:jr listed i=false):unl listed=unl (listed.setIfInBounds i true)+1:=by
 unfold unl;have h1:listed.toList[i]?=some false:=by
  simp only [jr] at hf;simp [hi] at hf ⊢;exact hf
 rw [Array.toList_setIfInBounds];exact countP_set _ _ h1
end Go.Proofs.YtjkbbdldmdajkaaGreatDoor.c5
