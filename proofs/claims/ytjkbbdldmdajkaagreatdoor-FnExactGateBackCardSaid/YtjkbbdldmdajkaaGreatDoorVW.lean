/- The evaluator of a region whose order Go leaves open. No condition. -/
import Derived.Test.YtjkbbdldmdajkaaGreatDoorVV
namespace Go.Proofs.YtjkbbdldmdajkaaGreatDoor.c_
open Go Go.RowKit
variable {w w' xh:World} {F F' Bn O O' vW:Nat→Prop} {μ bD lF:Nat→Nat} {K K' EB:Nat→Prop} {ft bY:Nat→Nat→Prop} {P:Program} {R:Type}
def L2 (B:Array Nat) (i:Nat):List (Nat×List Nat)→List Nat
 | []=>[]
 | (j,l)::r=>match inc B i j with
  | true=>l++L2 B i r
  | false=>L2 B i r
def z9 (B:Array Nat) (i:Nat):Nat→List Oper→List Nat
 | _,[]=>[]
 | j,o::r=>match inc B i j,o.dst with
  | true,some t=>t::z9 B i (j+1) r
  | _,_=>z9 B i (j+1) r
theorem Ud {B:Array Nat} {i id:Nat}:∀ {fj:List (Nat×List Nat)},Gm B i id fj=true→id∈L2 B i fj
 | [],h=>by cases h
 | (j,l)::r,h=>by
  simp only [Gm,Bool.or_eq_true,Bool.and_eq_true] at h;simp only [L2];rcases h with ⟨h1,h2⟩ | h
  ·rw [h2];obtain ⟨x,hx,he⟩:=List.any_eq_true.1 h1;rw [← Nat.eq_of_beq_eq_true he];exact List.mem_append_left _ hx
  ·have:=Ud h;split
   ·exact List.mem_append_right _ this
   ·exact this
theorem Qq {B:Array Nat} {i t:Nat}:∀ {l:List Oper} {j:Nat},H4 B i t j l=true→t∈z9 B i j l
 | [],j,h=>by cases h
 | o::r,j,h=>by
  simp only [H4,Bool.or_eq_true,Bool.and_eq_true] at h;simp only [z9];rcases h with ⟨h1,h2⟩ | h
  ·rw [h2,z8.1 h1];simp
  ·have:=Qq h;split
   ·exact List.mem_cons_of_mem _ this
   ·exact this
def R4:List Nat→List (Nat×TA)→List (Nat×TA)
 | [],l=>l
 | t::r,l=>(t,.top)::R4 r l
theorem xN (l:List (Nat×TA)) (t:Nat):∀ L:List Nat,(t∈L∧look (R4 L l) t=.top)∨(t ∉ L∧look (R4 L l) t=look l t)
 | []=>.inr ⟨by simp,rfl⟩
 | i::r=>by
  simp only [R4,look];cases e:Nat.beq t i with
  | true=>exact .inl ⟨by simp [Nat.eq_of_beq_eq_true e],rfl⟩
  | false=>
   have qJ:=Nat.ne_of_beq_eq_false e;rcases xN l t r with ⟨h1,h2⟩ | ⟨h1,h2⟩
   ·exact .inl ⟨by simp [h1],h2⟩
   ·exact .inr ⟨by simp [h1,qJ],h2⟩
def bP.mask (T:bP) (ops:List Oper) (B:Array Nat) (fj:List (Nat×List Nat)) (i:Nat):bP:=
 { T with tm:=R4 (z9 B i 0 ops) T.tm,H:=cD T.H ((L2 B i fj).map fun id=>(id,none)) }
def ade (l:List (Nat×Option aY)) (m:List Nat):Bool:=l.all fun p=>m.any fun x=>Nat.beq x p.1
def Jw (E:Env) (bN:List CT) (ops:List Oper) (B:Array Nat) (fj:List (Nat×List Nat)) (o:Oper) (i:Nat) (T:bP) (b:Bool) (κ:bP→Option R):Option R:=
 match b with
 | true=>evT E bN o (T.mask ops B fj i) (fun r=>match ade r.up (xn fj i) with
  | true=>κ ((T.next r).put o.dst r.v)
  | false=>none) (fun _=>none)
 | false=>κ (T.put o.dst (.lit undef))
def R5 (E:Env) (bN:List CT) (ops:List Oper) (B:Array Nat) (fj:List (Nat×List Nat)):List Oper→Nat→bP→(bP→Option R)→Option R
 | [],_,T,κ=>κ T
 | o::rest,i,T,κ=>match pz T o.dst with
  | true=>match Om ⟨ops⟩ (T.mask ops B fj i) o with
   | some .yes=>Jw E bN ops B fj o i T true (fun T=>R5 E bN ops B fj rest (i+1) T κ)
   | some .no=>Jw E bN ops B fj o i T false (fun T=>R5 E bN ops B fj rest (i+1) T κ)
   | some (.on t b c)=>cond b (Jw E bN ops B fj o i (T.EX t true) c (fun T=>R5 E bN ops B fj rest (i+1) T κ)) (Jw E bN ops B fj o i (T.EX t false) (!c) (fun T=>R5 E bN ops B fj rest (i+1) T κ))
   | none=>none
  | false=>none
def VS (E:Env) (bN:List CT) (ops:List Oper) (B:Array Nat) (fj:List (Nat×List Nat)) (s:bP) (κ:bP→Option R):Option R:=
 match th ops B fj with
 | true=>R5 E bN ops B fj ops 0 s κ
 | false=>none
theorem Jx {H H':List (Nat×aY)} (h:∀ id,fG (aT H id)=fG (aT H' id)):∀ (up:List (Nat×Option aY)) (id:Nat),fG (aT (cD H up) id)=fG (aT (cD H' up) id)
 | [],id=>h id
 | (i,some b)::r,id=>by
  simp only [cD,aT];cases Nat.beq id i with
  | true=>rfl
  | false=>exact Jx h r id
 | (i,none)::r,id=>by
  simp only [cD,aT];cases Nat.beq id i with
  | true=>simp only [fG];exact Jx h r i
  | false=>exact Jx h r id
theorem Mq {H H':List (Nat×aY)} (h:∀ id,fG (aT H id)=fG (aT H' id)) (N:Nat):Sub H H' N:=fun id _=>(h id).symm
theorem Ov {T:bP} {ops:List Oper} {B:Array Nat} {fj:List (Nat×List Nat)} {i:Nat} (id:Nat):fG (aT (T.mask ops B fj i).H id)=fG (aT T.H id):=yX _ _ _
theorem acA {T:bP} {ops:List Oper} {B:Array Nat} {fj:List (Nat×List Nat)} {i:Nat} (ho:T.ok):(T.mask ops B fj i).ok:=by
 have hs:=Mq (fun id=>(Ov (T:=T) (ops:=ops) (B:=B) (fj:=fj) (i:=i) id).symm) T.N;refine ⟨fun t=>?_,fun id l hl=>?_⟩
 ·show (look (R4 (z9 B i 0 ops) T.tm) t).wf _ T.N;rcases xN T.tm t (z9 B i 0 ops) with ⟨_,h⟩ | ⟨_,h⟩
  ·rw [h];simp only [TA.wf]
  ·rw [h];exact (jR hs (Nat.le_refl _) _ (ho.tm t)).2
 ·rcases oB T.H id (L2 B i fj) with ⟨_,x,h⟩ | ⟨_,h⟩
  ·simp only [bP.mask] at hl;rw [h] at hl;cases hl;simp only [aY.refs,iz]
  ·simp only [bP.mask] at hl;rw [h] at hl;exact (iK hs (Nat.le_refl _) _ (ho.H id l hl)).2
theorem acB {T:bP} {ops:List Oper} {B:Array Nat} {fj:List (Nat×List Nat)} {i:Nat} (ho:T.ok) (t:Nat):(T.mask ops B fj i).st.tm t=.top∨(H4 B i t 0 ops=false∧(T.mask ops B fj i).st.tm t=(look T.tm t).av T.H):=by
 have hs:=Mq (fun id=>(Ov (T:=T) (ops:=ops) (B:=B) (fj:=fj) (i:=i) id).symm) T.N;simp only [bP.st];rcases xN T.tm t (z9 B i 0 ops) with ⟨_,h⟩ | ⟨h1,h⟩
 ·left;show (look (R4 (z9 B i 0 ops) T.tm) t).av _=_;rw [h];simp only [TA.av]
 ·right;refine ⟨?_,?_⟩
  ·cases hh:H4 B i t 0 ops with
   | false=>rfl
   | true=>exact absurd (Qq hh) h1
  ·show (look (R4 (z9 B i 0 ops) T.tm) t).av _=_;rw [h];exact (jR hs (Nat.le_refl _) _ (ho.tm t)).1
theorem acC {H H':List (Nat×aY)} {N:Nat} (h:∀ id,fG (aT H id)=fG (aT H' id)) {b:aY} (hw:iz H N b.refs):b.dC H'=b.dC H:=qL (Mq h N) hw
theorem aes {T:bP} {ops:List Oper} {B:Array Nat} {fj:List (Nat×List Nat)} {i:Nat} (ho:T.ok) (id:Nat):(T.mask ops B fj i).st.H id=none∨(Gm B i id fj=false∧(T.mask ops B fj i).st.H id=xk T.H id):=by
 rw [afl];rcases oB T.H id (L2 B i fj) with ⟨_,x,h⟩ | ⟨h1,h⟩
 ·left;show xk (cD T.H _) id=none;simp [xk,h,aY.Uv]
 ·right;refine ⟨?_,?_⟩
  ·cases hh:Gm B i id fj with
   | false=>rfl
   | true=>exact absurd (Ud hh) h1
  ·show xk (cD T.H _) id=xk T.H id;unfold xk;rw [h];cases hb:aT T.H id with
   | none=>rfl
   | some b=>
    simp only [Option.bind_some];have:=acC (N:=T.N) (fun id=>(yX T.H id (L2 B i fj)).symm) (b:=b) (ho.H id _ hb);rw [this]
structure Inv (s:bP) (ops:List Oper) (fj:List (Nat×List Nat)) (T:bP) (q:List RE):Prop where
 ok:T.ok
 nt:T.nt=s.nt
 N:Y1 s.N q T.N
 tm:∀ t,(look T.tm t).av T.H=Aw (fun _=>true) s.st.tm q t
 H:∀ id,xk T.H id=y6 (fun _=>true) s.st.H q id
 Ax:∀ j e,eU q j=some e→∃ o,ops[j]?=some o∧e.d=o.dst∧∀ id,id∈e.up.map (·.1)→id∈xn fj j
theorem Inv.EX {s:bP} {ops:List Oper} {fj:List (Nat×List Nat)} {T:bP} {q:List RE} (h:Inv s ops fj T q) {t:Nat} {b:Bool} (hl:look T.tm t=.d ⟨.bool,b⟩):Inv s ops fj (T.EX t b) q:=by
 refine ⟨Jr h.ok,h.nt,h.N,fun u=>?_,h.H,h.Ax⟩;rw [← h.tm u];simp only [bP.EX,look];cases e:Nat.beq u t with
 | true=>rw [Nat.eq_of_beq_eq_true e,hl]
 | false=>rfl
theorem Inv.WW {s:bP} {ops:List Oper} {B:Array Nat} {fj:List (Nat×List Nat)} {T:bP} {q:List RE} (xj:∀ i o,ops[i]?=some o→B.getD i 0 < 2 ^ i) (h:Inv s ops fj T q) (t:Nat):
  (T.mask ops B fj q.length).st.tm t=.top∨(H4 B q.length t 0 ops=false∧(T.mask ops B fj q.length).st.tm t=Aw (bit B q.length) s.st.tm q t):=by
 rcases acB (ops:=ops) (B:=B) (fj:=fj) (i:=q.length) h.ok t with e | ⟨e1,e2⟩
 ·exact .inl e
 ·refine .inr ⟨e1,?_⟩;rw [e2,h.tm t];refine uN fun j e hj hd=>?_;obtain ⟨o,ho,hdo,_⟩:=h.Ax j e hj;have CE:=H5 e1 j o ho (hdo▸hd);have dT:=jH hj;rw [Nat.zero_add] at CE;simp only [inc,Bool.and_eq_false_iff,Bool.not_eq_false'] at CE;rcases CE with (h1 | h1) | h1
  ·have:=Nat.eq_of_beq_eq_true h1;omega
  ·exact h1.symm
  ·have:=CD (xj j o ho) h1;omega
theorem Inv.WX {s:bP} {ops:List Oper} {B:Array Nat} {fj:List (Nat×List Nat)} {T:bP} {q:List RE} (xj:∀ i o,ops[i]?=some o→B.getD i 0 < 2 ^ i) (h:Inv s ops fj T q) (id:Nat):
  (T.mask ops B fj q.length).st.H id=none∨(Gm B q.length id fj=false∧(T.mask ops B fj q.length).st.H id=y6 (bit B q.length) s.st.H q id):=by
 rcases aes (ops:=ops) (B:=B) (fj:=fj) (i:=q.length) h.ok id with e | ⟨e1,e2⟩
 ·exact .inl e
 ·refine .inr ⟨e1,?_⟩;rw [e2,h.H id];refine Bz fun j e hj hd=>?_;obtain ⟨o,ho,_,hto⟩:=h.Ax j e hj;obtain ⟨p,hp,hpj,aaX⟩:=Fs (hto id hd);have CE:=H6 e1 p hp aaX;have dT:=jH hj;rw [hpj] at CE;simp only [inc,Bool.and_eq_false_iff,Bool.not_eq_false'] at CE;rcases CE with (h1 | h1) | h1
  ·have:=Nat.eq_of_beq_eq_true h1;omega
  ·exact h1.symm
  ·have:=CD (xj j o ho) h1;omega
end Go.Proofs.YtjkbbdldmdajkaaGreatDoor.c_
