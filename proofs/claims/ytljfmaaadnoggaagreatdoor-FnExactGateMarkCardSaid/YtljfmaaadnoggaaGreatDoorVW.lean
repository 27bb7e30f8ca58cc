/- The evaluator of a region whose order Go leaves open. No condition. -/
import Derived.Test.YtljfmaaadnoggaaGreatDoorVV
namespace Go.Proofs.YtljfmaaadnoggaaGreatDoor.cU
open Go Go.RowKit
variable {w w' vP:World} {F F' Am O O' ux:Nat→Prop} {μ bB jV:Nat→Nat} {K K' DQ:Nat→Prop} {ft b7:Nat→Nat→Prop} {P:Program} {R:Type}
def LN (B:Array Nat) (i:Nat):List (Nat×List Nat)→List Nat
 | []=>[]
 | (j,l)::r=>match inc B i j with
  | true=>l++LN B i r
  | false=>LN B i r
def zb (B:Array Nat) (i:Nat):Nat→List Oper→List Nat
 | _,[]=>[]
 | j,o::r=>match inc B i j,o.dst with
  | true,some t=>t::zb B i (j+1) r
  | _,_=>zb B i (j+1) r
theorem TF {B:Array Nat} {i id:Nat}:∀ {eC:List (Nat×List Nat)},FG B i id eC=true→id∈LN B i eC
 | [],h=>by cases h
 | (j,l)::r,h=>by
  simp only [FG,Bool.or_eq_true,Bool.and_eq_true] at h
  simp only [LN]
  rcases h with ⟨h1,h2⟩ | h
  ·rw [h2]
   obtain ⟨x,hx,he⟩:=List.any_eq_true.1 h1
   rw [← Nat.eq_of_beq_eq_true he]
   exact List.mem_append_left _ hx
  ·have:=TF h
   split
   ·exact List.mem_append_right _ this
   ·exact this
theorem P5 {B:Array Nat} {i t:Nat}:∀ {l:List Oper} {j:Nat},Hv B i t j l=true→t∈zb B i j l
 | [],j,h=>by cases h
 | o::r,j,h=>by
  simp only [Hv,Bool.or_eq_true,Bool.and_eq_true] at h
  simp only [zb]
  rcases h with ⟨h1,h2⟩ | h
  ·rw [h2,y_.1 h1];simp
  ·have:=P5 h
   split
   ·exact List.mem_cons_of_mem _ this
   ·exact this
def Rx:List Nat→List (Nat×TA)→List (Nat×TA)
 | [],l=>l
 | t::r,l=>(t,.top)::Rx r l
theorem wu (l:List (Nat×TA)) (t:Nat):∀ L:List Nat,(t∈L∧look (Rx L l) t=.top)∨(t ∉ L∧look (Rx L l) t=look l t)
 | []=>.inr ⟨by simp,rfl⟩
 | i::r=>by
  simp only [Rx,look]
  cases e:Nat.beq t i with
  | true=>exact .inl ⟨by simp [Nat.eq_of_beq_eq_true e],rfl⟩
  | false=>
   have o8:=Nat.ne_of_beq_eq_false e
   rcases wu l t r with ⟨h1,h2⟩ | ⟨h1,h2⟩
   ·exact .inl ⟨by simp [h1],h2⟩
   ·exact .inr ⟨by simp [h1,o8],h2⟩
def bK.mask (T:bK) (ops:List Oper) (B:Array Nat) (eC:List (Nat×List Nat)) (i:Nat):bK:=
 { T with tm:=Rx (zb B i 0 ops) T.tm,H:=cz T.H ((LN B i eC).map fun id=>(id,none)) }
def aci (l:List (Nat×Option aW)) (m:List Nat):Bool:=l.all fun p=>m.any fun x=>Nat.beq x p.1
def Ja (E:Env) (bH:List CT) (ops:List Oper) (B:Array Nat) (eC:List (Nat×List Nat)) (o:Oper) (i:Nat) (T:bK) (b:Bool) (κ:bK→Option R):Option R:=
 match b with
 | true=>evT E bH o (T.mask ops B eC i) (fun r=>match aci r.up (vU eC i) with
  | true=>κ ((T.next r).put o.dst r.v)
  | false=>none) (fun _=>none)
 | false=>κ (T.put o.dst (.lit undef))
def Ry (E:Env) (bH:List CT) (ops:List Oper) (B:Array Nat) (eC:List (Nat×List Nat)):List Oper→Nat→bK→(bK→Option R)→Option R
 | [],_,T,κ=>κ T
 | o::rest,i,T,κ=>match nU T o.dst with
  | true=>match NN ⟨ops⟩ (T.mask ops B eC i) o with
   | some .yes=>Ja E bH ops B eC o i T true (fun T=>Ry E bH ops B eC rest (i+1) T κ)
   | some .no=>Ja E bH ops B eC o i T false (fun T=>Ry E bH ops B eC rest (i+1) T κ)
   | some (.on t b c)=>cond b (Ja E bH ops B eC o i (T.Eb t true) c (fun T=>Ry E bH ops B eC rest (i+1) T κ)) (Ja E bH ops B eC o i (T.Eb t false) (!c) (fun T=>Ry E bH ops B eC rest (i+1) T κ))
   | none=>none
  | false=>none
def Vm (E:Env) (bH:List CT) (ops:List Oper) (B:Array Nat) (eC:List (Nat×List Nat)) (s:bK) (κ:bK→Option R):Option R:=
 match rL ops B eC with
 | true=>Ry E bH ops B eC ops 0 s κ
 | false=>none
theorem Jb {H H':List (Nat×aW)} (h:∀ id,fj (aR H id)=fj (aR H' id)):∀ (up:List (Nat×Option aW)) (id:Nat),fj (aR (cz H up) id)=fj (aR (cz H' up) id)
 | [],id=>h id
 | (i,some b)::r,id=>by
  simp only [cz,aR]
  cases Nat.beq id i with
  | true=>rfl
  | false=>exact Jb h r id
 | (i,none)::r,id=>by
  simp only [cz,aR]
  cases Nat.beq id i with
  | true=>simp only [fj];exact Jb h r i
  | false=>exact Jb h r id
theorem L9 {H H':List (Nat×aW)} (h:∀ id,fj (aR H id)=fj (aR H' id)) (N:Nat):Sub H H' N:=fun id _=>(h id).symm
theorem NS {T:bK} {ops:List Oper} {B:Array Nat} {eC:List (Nat×List Nat)} {i:Nat} (id:Nat):fj (aR (T.mask ops B eC i).H id)=fj (aR T.H id):=xQ _ _ _
theorem abD {T:bK} {ops:List Oper} {B:Array Nat} {eC:List (Nat×List Nat)} {i:Nat} (ho:T.ok):(T.mask ops B eC i).ok:=by
 have hs:=L9 (fun id=>(NS (T:=T) (ops:=ops) (B:=B) (eC:=eC) (i:=i) id).symm) T.N
 refine ⟨fun t=>?_,fun id l hl=>?_⟩
 ·show (look (Rx (zb B i 0 ops) T.tm) t).wf _ T.N
  rcases wu T.tm t (zb B i 0 ops) with ⟨_,h⟩ | ⟨_,h⟩
  ·rw [h];simp only [TA.wf]
  ·rw [h];exact (iX hs (Nat.le_refl _) _ (ho.tm t)).2
 ·rcases mL T.H id (LN B i eC) with ⟨_,x,h⟩ | ⟨_,h⟩
  ·simp only [bK.mask] at hl
   rw [h] at hl;cases hl;simp only [aW.refs,gQ]
  ·simp only [bK.mask] at hl
   rw [h] at hl
   exact (g7 hs (Nat.le_refl _) _ (ho.H id l hl)).2
theorem abE {T:bK} {ops:List Oper} {B:Array Nat} {eC:List (Nat×List Nat)} {i:Nat} (ho:T.ok) (t:Nat):(T.mask ops B eC i).st.tm t=.top∨(Hv B i t 0 ops=false∧(T.mask ops B eC i).st.tm t=(look T.tm t).av T.H):=by
 have hs:=L9 (fun id=>(NS (T:=T) (ops:=ops) (B:=B) (eC:=eC) (i:=i) id).symm) T.N
 simp only [bK.st]
 rcases wu T.tm t (zb B i 0 ops) with ⟨_,h⟩ | ⟨h1,h⟩
 ·left
  show (look (Rx (zb B i 0 ops) T.tm) t).av _=_
  rw [h];simp only [TA.av]
 ·right
  refine ⟨?_,?_⟩
  ·cases hh:Hv B i t 0 ops with
   | false=>rfl
   | true=>exact absurd (P5 hh) h1
  ·show (look (Rx (zb B i 0 ops) T.tm) t).av _=_
   rw [h]
   exact (iX hs (Nat.le_refl _) _ (ho.tm t)).1
theorem abF {H H':List (Nat×aW)} {N:Nat} (h:∀ id,fj (aR H id)=fj (aR H' id)) {b:aW} (hw:gQ H N b.refs):b.di H'=b.di H:=o_ (L9 h N) hw
theorem adz {T:bK} {ops:List Oper} {B:Array Nat} {eC:List (Nat×List Nat)} {i:Nat} (ho:T.ok) (id:Nat):(T.mask ops B eC i).st.H id=none∨(FG B i id eC=false∧(T.mask ops B eC i).st.H id=vS T.H id):=by
 rw [aes]
 rcases mL T.H id (LN B i eC) with ⟨_,x,h⟩ | ⟨h1,h⟩
 ·left
  show vS (cz T.H _) id=none
  simp [vS,h,aW.TW]
 ·right
  refine ⟨?_,?_⟩
  ·cases hh:FG B i id eC with
   | false=>rfl
   | true=>exact absurd (TF hh) h1
  ·show vS (cz T.H _) id=vS T.H id
   unfold vS
   rw [h]
   cases hb:aR T.H id with
   | none=>rfl
   | some b=>
    simp only [Option.bind_some]
    have:=abF (N:=T.N) (fun id=>(xQ T.H id (LN B i eC)).symm) (b:=b) (ho.H id _ hb)
    rw [this]
structure Inv (s:bK) (ops:List Oper) (eC:List (Nat×List Nat)) (T:bK) (q:List RE):Prop where
 ok:T.ok
 nt:T.nt=s.nt
 N:Yo s.N q T.N
 tm:∀ t,(look T.tm t).av T.H=zy (fun _=>true) s.st.tm q t
 H:∀ id,vS T.H id=xU (fun _=>true) s.st.H q id
 zz:∀ j e,dU q j=some e→∃ o,ops[j]?=some o∧e.d=o.dst∧∀ id,id∈e.up.map (·.1)→id∈vU eC j
theorem Inv.Eb {s:bK} {ops:List Oper} {eC:List (Nat×List Nat)} {T:bK} {q:List RE} (h:Inv s ops eC T q) {t:Nat} {b:Bool} (hl:look T.tm t=.d ⟨.bool,b⟩):Inv s ops eC (T.Eb t b) q:=by
 refine ⟨I7 h.ok,h.nt,h.N,fun u=>?_,h.H,h.zz⟩
 rw [← h.tm u]
 simp only [bK.Eb,look]
 cases e:Nat.beq u t with
 | true=>rw [Nat.eq_of_beq_eq_true e,hl]
 | false=>rfl
theorem Inv.Wo {s:bK} {ops:List Oper} {B:Array Nat} {eC:List (Nat×List Nat)} {T:bK} {q:List RE} (vQ:∀ i o,ops[i]?=some o→B.getD i 0 < 2 ^ i) (h:Inv s ops eC T q) (t:Nat):
  (T.mask ops B eC q.length).st.tm t=.top∨(Hv B q.length t 0 ops=false∧(T.mask ops B eC q.length).st.tm t=zy (bit B q.length) s.st.tm q t):=by
 rcases abE (ops:=ops) (B:=B) (eC:=eC) (i:=q.length) h.ok t with e | ⟨e1,e2⟩
 ·exact .inl e
 ·refine .inr ⟨e1,?_⟩
  rw [e2,h.tm t]
  refine sV fun j e hj hd=>?_
  obtain ⟨o,ho,hdo,_⟩:=h.zz j e hj
  have Bz:=Hw e1 j o ho (hdo▸hd)
  have dL:=iP hj
  rw [Nat.zero_add] at Bz
  simp only [inc,Bool.and_eq_false_iff,Bool.not_eq_false'] at Bz
  rcases Bz with (h1 | h1) | h1
  ·have:=Nat.eq_of_beq_eq_true h1;omega
  ·exact h1.symm
  ·have:=Bx (vQ j o ho) h1;omega
theorem Inv.Wp {s:bK} {ops:List Oper} {B:Array Nat} {eC:List (Nat×List Nat)} {T:bK} {q:List RE} (vQ:∀ i o,ops[i]?=some o→B.getD i 0 < 2 ^ i) (h:Inv s ops eC T q) (id:Nat):
  (T.mask ops B eC q.length).st.H id=none∨(FG B q.length id eC=false∧(T.mask ops B eC q.length).st.H id=xU (bit B q.length) s.st.H q id):=by
 rcases adz (ops:=ops) (B:=B) (eC:=eC) (i:=q.length) h.ok id with e | ⟨e1,e2⟩
 ·exact .inl e
 ·refine .inr ⟨e1,?_⟩
  rw [e2,h.H id]
  refine Aw fun j e hj hd=>?_
  obtain ⟨o,ho,_,hto⟩:=h.zz j e hj
  obtain ⟨p,hp,hpj,Z8⟩:=EE (hto id hd)
  have Bz:=Hy e1 p hp Z8
  have dL:=iP hj
  rw [hpj] at Bz
  simp only [inc,Bool.and_eq_false_iff,Bool.not_eq_false'] at Bz
  rcases Bz with (h1 | h1) | h1
  ·have:=Nat.eq_of_beq_eq_true h1;omega
  ·exact h1.symm
  ·have:=Bx (vQ j o ho) h1;omega
end Go.Proofs.YtljfmaaadnoggaaGreatDoor.cU
