/- The evaluator of a region whose order Go leaves open. No condition. -/
import Derived.Test.YtljfmaaadnoggaaGreatDoorVV
namespace Go.Proofs.YtljfmaaadnoggaaGreatDoor.cX
open Go Go.RowKit
variable {w w' xW:World} {F F' Cq O O' wx:Nat→Prop} {μ bC kZ:Nat→Nat} {K K' Gg:Nat→Prop} {ft b8:Nat→Nat→Prop} {P:Program} {R:Type}
def N7 (B:Array Nat) (i:Nat):List (Nat×List Nat)→List Nat
 | []=>[]
 | (j,l)::r=>match inc B i j with
  | true=>l++N7 B i r
  | false=>N7 B i r
def Ba (B:Array Nat) (i:Nat):Nat→List Oper→List Nat
 | _,[]=>[]
 | j,o::r=>match inc B i j,o.dst with
  | true,some t=>t::Ba B i (j+1) r
  | _,_=>Ba B i (j+1) r
theorem Wz {B:Array Nat} {i id:Nat}:∀ {eY:List (Nat×List Nat)},Ig B i id eY=true→id∈N7 B i eY
 | [],h=>by cases h
 | (j,l)::r,h=>by
  simp only [Ig,Bool.or_eq_true,Bool.and_eq_true] at h
  simp only [N7]
  rcases h with ⟨h1,h2⟩ | h
  ·rw [h2]
   obtain ⟨x,hx,he⟩:=List.any_eq_true.1 h1
   rw [← Nat.eq_of_beq_eq_true he]
   exact List.mem_append_left _ hx
  ·have:=Wz h
   split
   ·exact List.mem_append_right _ this
   ·exact this
theorem SA {B:Array Nat} {i t:Nat}:∀ {l:List Oper} {j:Nat},JU B i t j l=true→t∈Ba B i j l
 | [],j,h=>by cases h
 | o::r,j,h=>by
  simp only [JU,Bool.or_eq_true,Bool.and_eq_true] at h
  simp only [Ba]
  rcases h with ⟨h1,h2⟩ | h
  ·rw [h2,A_.1 h1];simp
  ·have:=SA h
   split
   ·exact List.mem_cons_of_mem _ this
   ·exact this
def Up:List Nat→List (Nat×TA)→List (Nat×TA)
 | [],l=>l
 | t::r,l=>(t,.top)::Up r l
theorem yq (l:List (Nat×TA)) (t:Nat):∀ L:List Nat,(t∈L∧look (Up L l) t=.top)∨(t ∉ L∧look (Up L l) t=look l t)
 | []=>.inr ⟨by simp,rfl⟩
 | i::r=>by
  simp only [Up,look]
  cases e:Nat.beq t i with
  | true=>exact .inl ⟨by simp [Nat.eq_of_beq_eq_true e],rfl⟩
  | false=>
   have pw:=Nat.ne_of_beq_eq_false e
   rcases yq l t r with ⟨h1,h2⟩ | ⟨h1,h2⟩
   ·exact .inl ⟨by simp [h1],h2⟩
   ·exact .inr ⟨by simp [h1,pw],h2⟩
def bQ.mask (T:bQ) (ops:List Oper) (B:Array Nat) (eY:List (Nat×List Nat)) (i:Nat):bQ:=
 { T with tm:=Up (Ba B i 0 ops) T.tm,H:=cD T.H ((N7 B i eY).map fun id=>(id,none)) }
def ae_ (l:List (Nat×Option aY)) (m:List Nat):Bool:=l.all fun p=>m.any fun x=>Nat.beq x p.1
def Lu (E:Env) (bM:List CT) (ops:List Oper) (B:Array Nat) (eY:List (Nat×List Nat)) (o:Oper) (i:Nat) (T:bQ) (b:Bool) (κ:bQ→Option R):Option R:=
 match b with
 | true=>evT E bM o (T.mask ops B eY i) (fun r=>match ae_ r.up (x4 eY i) with
  | true=>κ ((T.next r).put o.dst r.v)
  | false=>none) (fun _=>none)
 | false=>κ (T.put o.dst (.lit undef))
def Uq (E:Env) (bM:List CT) (ops:List Oper) (B:Array Nat) (eY:List (Nat×List Nat)):List Oper→Nat→bQ→(bQ→Option R)→Option R
 | [],_,T,κ=>κ T
 | o::rest,i,T,κ=>match pc T o.dst with
  | true=>match Qp ⟨ops⟩ (T.mask ops B eY i) o with
   | some .yes=>Lu E bM ops B eY o i T true (fun T=>Uq E bM ops B eY rest (i+1) T κ)
   | some .no=>Lu E bM ops B eY o i T false (fun T=>Uq E bM ops B eY rest (i+1) T κ)
   | some (.on t b c)=>cond b (Lu E bM ops B eY o i (T.GD t true) c (fun T=>Uq E bM ops B eY rest (i+1) T κ)) (Lu E bM ops B eY o i (T.GD t false) (!c) (fun T=>Uq E bM ops B eY rest (i+1) T κ))
   | none=>none
  | false=>none
def Yn (E:Env) (bM:List CT) (ops:List Oper) (B:Array Nat) (eY:List (Nat×List Nat)) (s:bQ) (κ:bQ→Option R):Option R:=
 match tw ops B eY with
 | true=>Uq E bM ops B eY ops 0 s κ
 | false=>none
theorem Lv {H H':List (Nat×aY)} (h:∀ id,fM (aR H id)=fM (aR H' id)):∀ (up:List (Nat×Option aY)) (id:Nat),fM (aR (cD H up) id)=fM (aR (cD H' up) id)
 | [],id=>h id
 | (i,some b)::r,id=>by
  simp only [cD,aR]
  cases Nat.beq id i with
  | true=>rfl
  | false=>exact Lv h r id
 | (i,none)::r,id=>by
  simp only [cD,aR]
  cases Nat.beq id i with
  | true=>simp only [fM];exact Lv h r i
  | false=>exact Lv h r id
theorem Oz {H H':List (Nat×aY)} (h:∀ id,fM (aR H id)=fM (aR H' id)) (N:Nat):Sub H H' N:=fun id _=>(h id).symm
theorem Qu {T:bQ} {ops:List Oper} {B:Array Nat} {eY:List (Nat×List Nat)} {i:Nat} (id:Nat):fM (aR (T.mask ops B eY i).H id)=fM (aR T.H id):=zX _ _ _
theorem aeu {T:bQ} {ops:List Oper} {B:Array Nat} {eY:List (Nat×List Nat)} {i:Nat} (ho:T.ok):(T.mask ops B eY i).ok:=by
 have hs:=Oz (fun id=>(Qu (T:=T) (ops:=ops) (B:=B) (eY:=eY) (i:=i) id).symm) T.N
 refine ⟨fun t=>?_,fun id l hl=>?_⟩
 ·show (look (Up (Ba B i 0 ops) T.tm) t).wf _ T.N
  rcases yq T.tm t (Ba B i 0 ops) with ⟨_,h⟩ | ⟨_,h⟩
  ·rw [h];simp only [TA.wf]
  ·rw [h];exact (jQ hs (Nat.le_refl _) _ (ho.tm t)).2
 ·rcases n_ T.H id (N7 B i eY) with ⟨_,x,h⟩ | ⟨_,h⟩
  ·simp only [bQ.mask] at hl
   rw [h] at hl;cases hl;simp only [aY.refs,iw]
  ·simp only [bQ.mask] at hl
   rw [h] at hl
   exact (iK hs (Nat.le_refl _) _ (ho.H id l hl)).2
theorem aev {T:bQ} {ops:List Oper} {B:Array Nat} {eY:List (Nat×List Nat)} {i:Nat} (ho:T.ok) (t:Nat):(T.mask ops B eY i).st.tm t=.top∨(JU B i t 0 ops=false∧(T.mask ops B eY i).st.tm t=(look T.tm t).av T.H):=by
 have hs:=Oz (fun id=>(Qu (T:=T) (ops:=ops) (B:=B) (eY:=eY) (i:=i) id).symm) T.N
 simp only [bQ.st]
 rcases yq T.tm t (Ba B i 0 ops) with ⟨_,h⟩ | ⟨h1,h⟩
 ·left
  show (look (Up (Ba B i 0 ops) T.tm) t).av _=_
  rw [h];simp only [TA.av]
 ·right
  refine ⟨?_,?_⟩
  ·cases hh:JU B i t 0 ops with
   | false=>rfl
   | true=>exact absurd (SA hh) h1
  ·show (look (Up (Ba B i 0 ops) T.tm) t).av _=_
   rw [h]
   exact (jQ hs (Nat.le_refl _) _ (ho.tm t)).1
theorem aew {H H':List (Nat×aY)} {N:Nat} (h:∀ id,fM (aR H id)=fM (aR H' id)) {b:aY} (hw:iw H N b.refs):b.dw H'=b.dw H:=qy (Oz h N) hw
theorem agJ {T:bQ} {ops:List Oper} {B:Array Nat} {eY:List (Nat×List Nat)} {i:Nat} (ho:T.ok) (id:Nat):(T.mask ops B eY i).st.H id=none∨(Ig B i id eY=false∧(T.mask ops B eY i).st.H id=xX T.H id):=by
 rw [ahM]
 rcases n_ T.H id (N7 B i eY) with ⟨_,x,h⟩ | ⟨h1,h⟩
 ·left
  show xX (cD T.H _) id=none
  simp [xX,h,aY.WT]
 ·right
  refine ⟨?_,?_⟩
  ·cases hh:Ig B i id eY with
   | false=>rfl
   | true=>exact absurd (Wz hh) h1
  ·show xX (cD T.H _) id=xX T.H id
   unfold xX
   rw [h]
   cases hb:aR T.H id with
   | none=>rfl
   | some b=>
    simp only [Option.bind_some]
    have:=aew (N:=T.N) (fun id=>(zX T.H id (N7 B i eY)).symm) (b:=b) (ho.H id _ hb)
    rw [this]
structure Inv (s:bQ) (ops:List Oper) (eY:List (Nat×List Nat)) (T:bQ) (q:List RE):Prop where
 ok:T.ok
 nt:T.nt=s.nt
 N:wfN s.N q T.N
 tm:∀ t,(look T.tm t).av T.H=BB (fun _=>true) s.st.tm q t
 H:∀ id,xX T.H id=z6 (fun _=>true) s.st.H q id
 BC:∀ j e,er q j=some e→∃ o,ops[j]?=some o∧e.d=o.dst∧∀ id,id∈e.up.map (·.1)→id∈x4 eY j
theorem Inv.GD {s:bQ} {ops:List Oper} {eY:List (Nat×List Nat)} {T:bQ} {q:List RE} (h:Inv s ops eY T q) {t:Nat} {b:Bool} (hl:look T.tm t=.d ⟨.bool,b⟩):Inv s ops eY (T.GD t b) q:=by
 refine ⟨Lq h.ok,h.nt,h.N,fun u=>?_,h.H,h.BC⟩
 rw [← h.tm u]
 simp only [bQ.GD,look]
 cases e:Nat.beq u t with
 | true=>rw [Nat.eq_of_beq_eq_true e,hl]
 | false=>rfl
theorem Inv.Zz {s:bQ} {ops:List Oper} {B:Array Nat} {eY:List (Nat×List Nat)} {T:bQ} {q:List RE} (wq:∀ i o,ops[i]?=some o→B.getD i 0 < 2 ^ i) (h:Inv s ops eY T q) (t:Nat):
  (T.mask ops B eY q.length).st.tm t=.top∨(JU B q.length t 0 ops=false∧(T.mask ops B eY q.length).st.tm t=BB (bit B q.length) s.st.tm q t):=by
 rcases aev (ops:=ops) (B:=B) (eY:=eY) (i:=q.length) h.ok t with e | ⟨e1,e2⟩
 ·exact .inl e
 ·refine .inr ⟨e1,?_⟩
  rw [e2,h.tm t]
  refine uT fun j e hj hd=>?_
  obtain ⟨o,ho,hdo,_⟩:=h.BC j e hj
  have DF:=JV e1 j o ho (hdo▸hd)
  have dQ:=jF hj
  rw [Nat.zero_add] at DF
  simp only [inc,Bool.and_eq_false_iff,Bool.not_eq_false'] at DF
  rcases DF with (h1 | h1) | h1
  ·have:=Nat.eq_of_beq_eq_true h1;omega
  ·exact h1.symm
  ·have:=DE (wq j o ho) h1;omega
theorem Inv.ZA {s:bQ} {ops:List Oper} {B:Array Nat} {eY:List (Nat×List Nat)} {T:bQ} {q:List RE} (wq:∀ i o,ops[i]?=some o→B.getD i 0 < 2 ^ i) (h:Inv s ops eY T q) (id:Nat):
  (T.mask ops B eY q.length).st.H id=none∨(Ig B q.length id eY=false∧(T.mask ops B eY q.length).st.H id=z6 (bit B q.length) s.st.H q id):=by
 rcases agJ (ops:=ops) (B:=B) (eY:=eY) (i:=q.length) h.ok id with e | ⟨e1,e2⟩
 ·exact .inl e
 ·refine .inr ⟨e1,?_⟩
  rw [e2,h.H id]
  refine CA fun j e hj hd=>?_
  obtain ⟨o,ho,_,hto⟩:=h.BC j e hj
  obtain ⟨p,hp,hpj,acX⟩:=Hd (hto id hd)
  have DF:=JW e1 p hp acX
  have dQ:=jF hj
  rw [hpj] at DF
  simp only [inc,Bool.and_eq_false_iff,Bool.not_eq_false'] at DF
  rcases DF with (h1 | h1) | h1
  ·have:=Nat.eq_of_beq_eq_true h1;omega
  ·exact h1.symm
  ·have:=DE (wq j o ho) h1;omega
end Go.Proofs.YtljfmaaadnoggaaGreatDoor.cX
