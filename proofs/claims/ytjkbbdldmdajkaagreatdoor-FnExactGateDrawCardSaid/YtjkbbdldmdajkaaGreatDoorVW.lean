/- The evaluator of a region whose order Go leaves open. No condition. -/
import Derived.Test.YtjkbbdldmdajkaaGreatDoorVV
namespace Go.Proofs.YtjkbbdldmdajkaaGreatDoor.c5
open Go Go.RowKit
variable {w w' ss:World} {F F' zT O O' uo:Nat→Prop} {μ aZ jE:Nat→Nat} {K K' C9:Nat→Prop} {ft bX:Nat→Nat→Prop} {P:Program} {R:Type}
def Lu (B:Array Nat) (i:Nat):List (Nat×List Nat)→List Nat
 | []=>[]
 | (j,l)::r=>match inc B i j with
  | true=>l++Lu B i r
  | false=>Lu B i r
def zn (B:Array Nat) (i:Nat):Nat→List Oper→List Nat
 | _,[]=>[]
 | j,o::r=>match inc B i j,o.dst with
  | true,some t=>t::zn B i (j+1) r
  | _,_=>zn B i (j+1) r
theorem TJ {B:Array Nat} {i id:Nat}:∀ {eX:List (Nat×List Nat)},FJ B i id eX=true→id∈Lu B i eX
 | [],h=>by cases h
 | (j,l)::r,h=>by
  simp only [FJ,Bool.or_eq_true,Bool.and_eq_true] at h;simp only [Lu];rcases h with ⟨h1,h2⟩ | h
  ·rw [h2];obtain ⟨x,hx,he⟩:=List.any_eq_true.1 h1;rw [← Nat.eq_of_beq_eq_true he];exact List.mem_append_left _ hx
  ·have:=TJ h;split
   ·exact List.mem_append_right _ this
   ·exact this
theorem P3 {B:Array Nat} {i t:Nat}:∀ {l:List Oper} {j:Nat},Hq B i t j l=true→t∈zn B i j l
 | [],j,h=>by cases h
 | o::r,j,h=>by
  simp only [Hq,Bool.or_eq_true,Bool.and_eq_true] at h;simp only [zn];rcases h with ⟨h1,h2⟩ | h
  ·rw [h2,zm.1 h1];simp
  ·have:=P3 h;split
   ·exact List.mem_cons_of_mem _ this
   ·exact this
def Rv:List Nat→List (Nat×TA)→List (Nat×TA)
 | [],l=>l
 | t::r,l=>(t,.top)::Rv r l
theorem wT (l:List (Nat×TA)) (t:Nat):∀ L:List Nat,(t∈L∧look (Rv L l) t=.top)∨(t ∉ L∧look (Rv L l) t=look l t)
 | []=>.inr ⟨by simp,rfl⟩
 | i::r=>by
  simp only [Rv,look];cases e:Nat.beq t i with
  | true=>exact .inl ⟨by simp [Nat.eq_of_beq_eq_true e],rfl⟩
  | false=>
   have oV:=Nat.ne_of_beq_eq_false e;rcases wT l t r with ⟨h1,h2⟩ | ⟨h1,h2⟩
   ·exact .inl ⟨by simp [h1],h2⟩
   ·exact .inr ⟨by simp [h1,oV],h2⟩
def bL.mask (T:bL) (ops:List Oper) (B:Array Nat) (eX:List (Nat×List Nat)) (i:Nat):bL:=
 { T with tm:=Rv (zn B i 0 ops) T.tm,H:=cA T.H ((Lu B i eX).map fun id=>(id,none)) }
def acP (l:List (Nat×Option aX)) (m:List Nat):Bool:=l.all fun p=>m.any fun x=>Nat.beq x p.1
def IY (E:Env) (bJ:List CT) (ops:List Oper) (B:Array Nat) (eX:List (Nat×List Nat)) (o:Oper) (i:Nat) (T:bL) (b:Bool) (κ:bL→Option R):Option R:=
 match b with
 | true=>evT E bJ o (T.mask ops B eX i) (fun r=>match acP r.up (wq eX i) with
  | true=>κ ((T.next r).put o.dst r.v)
  | false=>none) (fun _=>none)
 | false=>κ (T.put o.dst (.lit undef))
def Rw (E:Env) (bJ:List CT) (ops:List Oper) (B:Array Nat) (eX:List (Nat×List Nat)):List Oper→Nat→bL→(bL→Option R)→Option R
 | [],_,T,κ=>κ T
 | o::rest,i,T,κ=>match oL T o.dst with
  | true=>match K4 ⟨ops⟩ (T.mask ops B eX i) o with
   | some .yes=>IY E bJ ops B eX o i T true (fun T=>Rw E bJ ops B eX rest (i+1) T κ)
   | some .no=>IY E bJ ops B eX o i T false (fun T=>Rw E bJ ops B eX rest (i+1) T κ)
   | some (.on t b c)=>cond b (IY E bJ ops B eX o i (T.En t true) c (fun T=>Rw E bJ ops B eX rest (i+1) T κ)) (IY E bJ ops B eX o i (T.En t false) (!c) (fun T=>Rw E bJ ops B eX rest (i+1) T κ))
   | none=>none
  | false=>none
def Vq (E:Env) (bJ:List CT) (ops:List Oper) (B:Array Nat) (eX:List (Nat×List Nat)) (s:bL) (κ:bL→Option R):Option R:=
 match sn ops B eX with
 | true=>Rw E bJ ops B eX ops 0 s κ
 | false=>none
theorem IZ {H H':List (Nat×aX)} (h:∀ id,fv (aS H id)=fv (aS H' id)):∀ (up:List (Nat×Option aX)) (id:Nat),fv (aS (cA H up) id)=fv (aS (cA H' up) id)
 | [],id=>h id
 | (i,some b)::r,id=>by
  simp only [cA,aS];cases Nat.beq id i with
  | true=>rfl
  | false=>exact IZ h r id
 | (i,none)::r,id=>by
  simp only [cA,aS];cases Nat.beq id i with
  | true=>simp only [fv];exact IZ h r i
  | false=>exact IZ h r id
theorem LZ {H H':List (Nat×aX)} (h:∀ id,fv (aS H id)=fv (aS H' id)) (N:Nat):Sub H H' N:=fun id _=>(h id).symm
theorem NU {T:bL} {ops:List Oper} {B:Array Nat} {eX:List (Nat×List Nat)} {i:Nat} (id:Nat):fv (aS (T.mask ops B eX i).H id)=fv (aS T.H id):=ye _ _ _
theorem ab8 {T:bL} {ops:List Oper} {B:Array Nat} {eX:List (Nat×List Nat)} {i:Nat} (ho:T.ok):(T.mask ops B eX i).ok:=by
 have hs:=LZ (fun id=>(NU (T:=T) (ops:=ops) (B:=B) (eX:=eX) (i:=i) id).symm) T.N;refine ⟨fun t=>?_,fun id l hl=>?_⟩
 ·show (look (Rv (zn B i 0 ops) T.tm) t).wf _ T.N;rcases wT T.tm t (zn B i 0 ops) with ⟨_,h⟩ | ⟨_,h⟩
  ·rw [h];simp only [TA.wf]
  ·rw [h];exact (jB hs (Nat.le_refl _) _ (ho.tm t)).2
 ·rcases nL T.H id (Lu B i eX) with ⟨_,x,h⟩ | ⟨_,h⟩
  ·simp only [bL.mask] at hl;rw [h] at hl;cases hl;simp only [aX.refs,hU]
  ·simp only [bL.mask] at hl;rw [h] at hl;exact (g0 hs (Nat.le_refl _) _ (ho.H id l hl)).2
theorem ab9 {T:bL} {ops:List Oper} {B:Array Nat} {eX:List (Nat×List Nat)} {i:Nat} (ho:T.ok) (t:Nat):(T.mask ops B eX i).st.tm t=.top∨(Hq B i t 0 ops=false∧(T.mask ops B eX i).st.tm t=(look T.tm t).av T.H):=by
 have hs:=LZ (fun id=>(NU (T:=T) (ops:=ops) (B:=B) (eX:=eX) (i:=i) id).symm) T.N;simp only [bL.st];rcases wT T.tm t (zn B i 0 ops) with ⟨_,h⟩ | ⟨h1,h⟩
 ·left;show (look (Rv (zn B i 0 ops) T.tm) t).av _=_;rw [h];simp only [TA.av]
 ·right;refine ⟨?_,?_⟩
  ·cases hh:Hq B i t 0 ops with
   | false=>rfl
   | true=>exact absurd (P3 hh) h1
  ·show (look (Rv (zn B i 0 ops) T.tm) t).av _=_;rw [h];exact (jB hs (Nat.le_refl _) _ (ho.tm t)).1
theorem ab_ {H H':List (Nat×aX)} {N:Nat} (h:∀ id,fv (aS H id)=fv (aS H' id)) {b:aX} (hw:hU H N b.refs):b.du H'=b.du H:=p4 (LZ h N) hw
theorem aee {T:bL} {ops:List Oper} {B:Array Nat} {eX:List (Nat×List Nat)} {i:Nat} (ho:T.ok) (id:Nat):(T.mask ops B eX i).st.H id=none∨(FJ B i id eX=false∧(T.mask ops B eX i).st.H id=sx T.H id):=by
 rw [afj];rcases nL T.H id (Lu B i eX) with ⟨_,x,h⟩ | ⟨h1,h⟩
 ·left;show sx (cA T.H _) id=none;simp [sx,h,aX.T5]
 ·right;refine ⟨?_,?_⟩
  ·cases hh:FJ B i id eX with
   | false=>rfl
   | true=>exact absurd (TJ hh) h1
  ·show sx (cA T.H _) id=sx T.H id;unfold sx;rw [h];cases hb:aS T.H id with
   | none=>rfl
   | some b=>
    simp only [Option.bind_some];have:=ab_ (N:=T.N) (fun id=>(ye T.H id (Lu B i eX)).symm) (b:=b) (ho.H id _ hb);rw [this]
structure Inv (s:bL) (ops:List Oper) (eX:List (Nat×List Nat)) (T:bL) (q:List RE):Prop where
 ok:T.ok
 nt:T.nt=s.nt
 N:YM s.N q T.N
 tm:∀ t,(look T.tm t).av T.H=zO (fun _=>true) s.st.tm q t
 H:∀ id,sx T.H id=yi (fun _=>true) s.st.H q id
 zP:∀ j e,eA q j=some e→∃ o,ops[j]?=some o∧e.d=o.dst∧∀ id,id∈e.up.map (·.1)→id∈wq eX j
theorem Inv.En {s:bL} {ops:List Oper} {eX:List (Nat×List Nat)} {T:bL} {q:List RE} (h:Inv s ops eX T q) {t:Nat} {b:Bool} (hl:look T.tm t=.d ⟨.bool,b⟩):Inv s ops eX (T.En t b) q:=by
 refine ⟨IV h.ok,h.nt,h.N,fun u=>?_,h.H,h.zP⟩;rw [← h.tm u];simp only [bL.En,look];cases e:Nat.beq u t with
 | true=>rw [Nat.eq_of_beq_eq_true e,hl]
 | false=>rfl
theorem Inv.WD {s:bL} {ops:List Oper} {B:Array Nat} {eX:List (Nat×List Nat)} {T:bL} {q:List RE} (wo:∀ i o,ops[i]?=some o→B.getD i 0 < 2 ^ i) (h:Inv s ops eX T q) (t:Nat):
  (T.mask ops B eX q.length).st.tm t=.top∨(Hq B q.length t 0 ops=false∧(T.mask ops B eX q.length).st.tm t=zO (bit B q.length) s.st.tm q t):=by
 rcases ab9 (ops:=ops) (B:=B) (eX:=eX) (i:=q.length) h.ok t with e | ⟨e1,e2⟩
 ·exact .inl e
 ·refine .inr ⟨e1,?_⟩;rw [e2,h.tm t];refine tN fun j e hj hd=>?_;obtain ⟨o,ho,hdo,_⟩:=h.zP j e hj;have B2:=Hr e1 j o ho (hdo▸hd);have dY:=jq hj;rw [Nat.zero_add] at B2;simp only [inc,Bool.and_eq_false_iff,Bool.not_eq_false'] at B2;rcases B2 with (h1 | h1) | h1
  ·have:=Nat.eq_of_beq_eq_true h1;omega
  ·exact h1.symm
  ·have:=B1 (wo j o ho) h1;omega
theorem Inv.WE {s:bL} {ops:List Oper} {B:Array Nat} {eX:List (Nat×List Nat)} {T:bL} {q:List RE} (wo:∀ i o,ops[i]?=some o→B.getD i 0 < 2 ^ i) (h:Inv s ops eX T q) (id:Nat):
  (T.mask ops B eX q.length).st.H id=none∨(FJ B q.length id eX=false∧(T.mask ops B eX q.length).st.H id=yi (bit B q.length) s.st.H q id):=by
 rcases aee (ops:=ops) (B:=B) (eX:=eX) (i:=q.length) h.ok id with e | ⟨e1,e2⟩
 ·exact .inl e
 ·refine .inr ⟨e1,?_⟩;rw [e2,h.H id];refine AU fun j e hj hd=>?_;obtain ⟨o,ho,_,hto⟩:=h.zP j e hj;obtain ⟨p,hp,hpj,aaq⟩:=ES (hto id hd);have B2:=Hs e1 p hp aaq;have dY:=jq hj;rw [hpj] at B2;simp only [inc,Bool.and_eq_false_iff,Bool.not_eq_false'] at B2;rcases B2 with (h1 | h1) | h1
  ·have:=Nat.eq_of_beq_eq_true h1;omega
  ·exact h1.symm
  ·have:=B1 (wo j o ho) h1;omega
end Go.Proofs.YtjkbbdldmdajkaaGreatDoor.c5
