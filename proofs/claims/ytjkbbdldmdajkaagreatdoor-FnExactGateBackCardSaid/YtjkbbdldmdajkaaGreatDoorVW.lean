/- The evaluator of a region whose order Go leaves open. No condition. -/
import Derived.Test.YtjkbbdldmdajkaaGreatDoorVV
namespace Go.Proofs.YtjkbbdldmdajkaaGreatDoor.c_
open Go Go.RowKit
variable {w w' xk:World} {F F' Bs O O' v8:Nat→Prop} {μ bC lG:Nat→Nat} {K K' EF:Nat→Prop} {ft bZ:Nat→Nat→Prop} {P:Program} {R:Type}
def L3 (B:Array Nat) (i:Nat):List (Nat×List Nat)→List Nat
 | []=>[]
 | (j,l)::r=>match inc B i j with
  | true=>l++L3 B i r
  | false=>L3 B i r
def Ac (B:Array Nat) (i:Nat):Nat→List Oper→List Nat
 | _,[]=>[]
 | j,o::r=>match inc B i j,o.dst with
  | true,some t=>t::Ac B i (j+1) r
  | _,_=>Ac B i (j+1) r
theorem Ug {B:Array Nat} {i id:Nat}:∀ {fj:List (Nat×List Nat)},Gs B i id fj=true→id∈L3 B i fj
 | [],h=>by cases h
 | (j,l)::r,h=>by
  simp only [Gs,Bool.or_eq_true,Bool.and_eq_true] at h;simp only [L3];rcases h with ⟨h1,h2⟩ | h
  ·rw [h2];obtain ⟨x,hx,he⟩:=List.any_eq_true.1 h1;rw [← Nat.eq_of_beq_eq_true he];exact List.mem_append_left _ hx
  ·have:=Ug h;split
   ·exact List.mem_append_right _ this
   ·exact this
theorem Qu {B:Array Nat} {i t:Nat}:∀ {l:List Oper} {j:Nat},H7 B i t j l=true→t∈Ac B i j l
 | [],j,h=>by cases h
 | o::r,j,h=>by
  simp only [H7,Bool.or_eq_true,Bool.and_eq_true] at h;simp only [Ac];rcases h with ⟨h1,h2⟩ | h
  ·rw [h2,Ab.1 h1];simp
  ·have:=Qu h;split
   ·exact List.mem_cons_of_mem _ this
   ·exact this
def R7:List Nat→List (Nat×TA)→List (Nat×TA)
 | [],l=>l
 | t::r,l=>(t,.top)::R7 r l
theorem xP (l:List (Nat×TA)) (t:Nat):∀ L:List Nat,(t∈L∧look (R7 L l) t=.top)∨(t ∉ L∧look (R7 L l) t=look l t)
 | []=>.inr ⟨by simp,rfl⟩
 | i::r=>by
  simp only [R7,look];cases e:Nat.beq t i with
  | true=>exact .inl ⟨by simp [Nat.eq_of_beq_eq_true e],rfl⟩
  | false=>
   have qL:=Nat.ne_of_beq_eq_false e;rcases xP l t r with ⟨h1,h2⟩ | ⟨h1,h2⟩
   ·exact .inl ⟨by simp [h1],h2⟩
   ·exact .inr ⟨by simp [h1,qL],h2⟩
def bP.mask (T:bP) (ops:List Oper) (B:Array Nat) (fj:List (Nat×List Nat)) (i:Nat):bP:=
 { T with tm:=R7 (Ac B i 0 ops) T.tm,H:=cD T.H ((L3 B i fj).map fun id=>(id,none)) }
def adh (l:List (Nat×Option aY)) (m:List Nat):Bool:=l.all fun p=>m.any fun x=>Nat.beq x p.1
def Jx (E:Env) (bN:List CT) (ops:List Oper) (B:Array Nat) (fj:List (Nat×List Nat)) (o:Oper) (i:Nat) (T:bP) (b:Bool) (κ:bP→Option R):Option R:=
 match b with
 | true=>evT E bN o (T.mask ops B fj i) (fun r=>match adh r.up (xp fj i) with
  | true=>κ ((T.next r).put o.dst r.v)
  | false=>none) (fun _=>none)
 | false=>κ (T.put o.dst (.lit undef))
def R8 (E:Env) (bN:List CT) (ops:List Oper) (B:Array Nat) (fj:List (Nat×List Nat)):List Oper→Nat→bP→(bP→Option R)→Option R
 | [],_,T,κ=>κ T
 | o::rest,i,T,κ=>match pA T o.dst with
  | true=>match Oq ⟨ops⟩ (T.mask ops B fj i) o with
   | some .yes=>Jx E bN ops B fj o i T true (fun T=>R8 E bN ops B fj rest (i+1) T κ)
   | some .no=>Jx E bN ops B fj o i T false (fun T=>R8 E bN ops B fj rest (i+1) T κ)
   | some (.on t b c)=>cond b (Jx E bN ops B fj o i (T.E2 t true) c (fun T=>R8 E bN ops B fj rest (i+1) T κ)) (Jx E bN ops B fj o i (T.E2 t false) (!c) (fun T=>R8 E bN ops B fj rest (i+1) T κ))
   | none=>none
  | false=>none
def VV (E:Env) (bN:List CT) (ops:List Oper) (B:Array Nat) (fj:List (Nat×List Nat)) (s:bP) (κ:bP→Option R):Option R:=
 match tl ops B fj with
 | true=>R8 E bN ops B fj ops 0 s κ
 | false=>none
theorem Jy {H H':List (Nat×aY)} (h:∀ id,fH (aT H id)=fH (aT H' id)):∀ (up:List (Nat×Option aY)) (id:Nat),fH (aT (cD H up) id)=fH (aT (cD H' up) id)
 | [],id=>h id
 | (i,some b)::r,id=>by
  simp only [cD,aT];cases Nat.beq id i with
  | true=>rfl
  | false=>exact Jy h r id
 | (i,none)::r,id=>by
  simp only [cD,aT];cases Nat.beq id i with
  | true=>simp only [fH];exact Jy h r i
  | false=>exact Jy h r id
theorem Mr {H H':List (Nat×aY)} (h:∀ id,fH (aT H id)=fH (aT H' id)) (N:Nat):Sub H H' N:=fun id _=>(h id).symm
theorem Ox {T:bP} {ops:List Oper} {B:Array Nat} {fj:List (Nat×List Nat)} {i:Nat} (id:Nat):fH (aT (T.mask ops B fj i).H id)=fH (aT T.H id):=y5 _ _ _
theorem acD {T:bP} {ops:List Oper} {B:Array Nat} {fj:List (Nat×List Nat)} {i:Nat} (ho:T.ok):(T.mask ops B fj i).ok:=by
 have hs:=Mr (fun id=>(Ox (T:=T) (ops:=ops) (B:=B) (fj:=fj) (i:=i) id).symm) T.N;refine ⟨fun t=>?_,fun id l hl=>?_⟩
 ·show (look (R7 (Ac B i 0 ops) T.tm) t).wf _ T.N;rcases xP T.tm t (Ac B i 0 ops) with ⟨_,h⟩ | ⟨_,h⟩
  ·rw [h];simp only [TA.wf]
  ·rw [h];exact (jR hs (Nat.le_refl _) _ (ho.tm t)).2
 ·rcases oC T.H id (L3 B i fj) with ⟨_,x,h⟩ | ⟨_,h⟩
  ·simp only [bP.mask] at hl;rw [h] at hl;cases hl;simp only [aY.refs,im]
  ·simp only [bP.mask] at hl;rw [h] at hl;exact (hG hs (Nat.le_refl _) _ (ho.H id l hl)).2
theorem acE {T:bP} {ops:List Oper} {B:Array Nat} {fj:List (Nat×List Nat)} {i:Nat} (ho:T.ok) (t:Nat):(T.mask ops B fj i).st.tm t=.top∨(H7 B i t 0 ops=false∧(T.mask ops B fj i).st.tm t=(look T.tm t).av T.H):=by
 have hs:=Mr (fun id=>(Ox (T:=T) (ops:=ops) (B:=B) (fj:=fj) (i:=i) id).symm) T.N;simp only [bP.st];rcases xP T.tm t (Ac B i 0 ops) with ⟨_,h⟩ | ⟨h1,h⟩
 ·left;show (look (R7 (Ac B i 0 ops) T.tm) t).av _=_;rw [h];simp only [TA.av]
 ·right;refine ⟨?_,?_⟩
  ·cases hh:H7 B i t 0 ops with
   | false=>rfl
   | true=>exact absurd (Qu hh) h1
  ·show (look (R7 (Ac B i 0 ops) T.tm) t).av _=_;rw [h];exact (jR hs (Nat.le_refl _) _ (ho.tm t)).1
theorem acF {H H':List (Nat×aY)} {N:Nat} (h:∀ id,fH (aT H id)=fH (aT H' id)) {b:aY} (hw:im H N b.refs):b.dC H'=b.dC H:=qN (Mr h N) hw
theorem aew {T:bP} {ops:List Oper} {B:Array Nat} {fj:List (Nat×List Nat)} {i:Nat} (ho:T.ok) (id:Nat):(T.mask ops B fj i).st.H id=none∨(Gs B i id fj=false∧(T.mask ops B fj i).st.H id=xn T.H id):=by
 rw [afp];rcases oC T.H id (L3 B i fj) with ⟨_,x,h⟩ | ⟨h1,h⟩
 ·left;show xn (cD T.H _) id=none;simp [xn,h,aY.Uy]
 ·right;refine ⟨?_,?_⟩
  ·cases hh:Gs B i id fj with
   | false=>rfl
   | true=>exact absurd (Ug hh) h1
  ·show xn (cD T.H _) id=xn T.H id;unfold xn;rw [h];cases hb:aT T.H id with
   | none=>rfl
   | some b=>
    simp only [Option.bind_some];have:=acF (N:=T.N) (fun id=>(y5 T.H id (L3 B i fj)).symm) (b:=b) (ho.H id _ hb);rw [this]
structure Inv (s:bP) (ops:List Oper) (fj:List (Nat×List Nat)) (T:bP) (q:List RE):Prop where
 ok:T.ok
 nt:T.nt=s.nt
 N:Y6 s.N q T.N
 tm:∀ t,(look T.tm t).av T.H=AA (fun _=>true) s.st.tm q t
 H:∀ id,xn T.H id=y9 (fun _=>true) s.st.H q id
 AB:∀ j e,eU q j=some e→∃ o,ops[j]?=some o∧e.d=o.dst∧∀ id,id∈e.up.map (·.1)→id∈xp fj j
theorem Inv.E2 {s:bP} {ops:List Oper} {fj:List (Nat×List Nat)} {T:bP} {q:List RE} (h:Inv s ops fj T q) {t:Nat} {b:Bool} (hl:look T.tm t=.d ⟨.bool,b⟩):Inv s ops fj (T.E2 t b) q:=by
 refine ⟨Jt h.ok,h.nt,h.N,fun u=>?_,h.H,h.AB⟩;rw [← h.tm u];simp only [bP.E2,look];cases e:Nat.beq u t with
 | true=>rw [Nat.eq_of_beq_eq_true e,hl]
 | false=>rfl
theorem Inv.WZ {s:bP} {ops:List Oper} {B:Array Nat} {fj:List (Nat×List Nat)} {T:bP} {q:List RE} (xm:∀ i o,ops[i]?=some o→B.getD i 0 < 2 ^ i) (h:Inv s ops fj T q) (t:Nat):
  (T.mask ops B fj q.length).st.tm t=.top∨(H7 B q.length t 0 ops=false∧(T.mask ops B fj q.length).st.tm t=AA (bit B q.length) s.st.tm q t):=by
 rcases acE (ops:=ops) (B:=B) (fj:=fj) (i:=q.length) h.ok t with e | ⟨e1,e2⟩
 ·exact .inl e
 ·refine .inr ⟨e1,?_⟩;rw [e2,h.tm t];refine uR fun j e hj hd=>?_;obtain ⟨o,ho,hdo,_⟩:=h.AB j e hj;have CJ:=H8 e1 j o ho (hdo▸hd);have dQ:=jH hj;rw [Nat.zero_add] at CJ;simp only [inc,Bool.and_eq_false_iff,Bool.not_eq_false'] at CJ;rcases CJ with (h1 | h1) | h1
  ·have:=Nat.eq_of_beq_eq_true h1;omega
  ·exact h1.symm
  ·have:=CI (xm j o ho) h1;omega
theorem Inv.W0 {s:bP} {ops:List Oper} {B:Array Nat} {fj:List (Nat×List Nat)} {T:bP} {q:List RE} (xm:∀ i o,ops[i]?=some o→B.getD i 0 < 2 ^ i) (h:Inv s ops fj T q) (id:Nat):
  (T.mask ops B fj q.length).st.H id=none∨(Gs B q.length id fj=false∧(T.mask ops B fj q.length).st.H id=y9 (bit B q.length) s.st.H q id):=by
 rcases aew (ops:=ops) (B:=B) (fj:=fj) (i:=q.length) h.ok id with e | ⟨e1,e2⟩
 ·exact .inl e
 ·refine .inr ⟨e1,?_⟩;rw [e2,h.H id];refine BC fun j e hj hd=>?_;obtain ⟨o,ho,_,hto⟩:=h.AB j e hj;obtain ⟨p,hp,hpj,aa0⟩:=Fx (hto id hd);have CJ:=H9 e1 p hp aa0;have dQ:=jH hj;rw [hpj] at CJ;simp only [inc,Bool.and_eq_false_iff,Bool.not_eq_false'] at CJ;rcases CJ with (h1 | h1) | h1
  ·have:=Nat.eq_of_beq_eq_true h1;omega
  ·exact h1.symm
  ·have:=CI (xm j o ho) h1;omega
end Go.Proofs.YtjkbbdldmdajkaaGreatDoor.c_
