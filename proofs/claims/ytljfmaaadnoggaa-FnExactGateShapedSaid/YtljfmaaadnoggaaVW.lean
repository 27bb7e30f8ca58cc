/- The evaluator of a region whose order Go leaves open. No condition. -/
import Derived.Test.YtljfmaaadnoggaaVV
namespace Go.Proofs.Ytljfmaaadnoggaa.Abs
open Go Go.RowKit
variable {w w' w'':World} {F F' F'' O O' O'':Nat→Prop} {μ μ' μ'':Nat→Nat} {K K' K'':Nat→Prop} {ft ft':Nat→Nat→Prop} {P:Program} {R:Type}
def hidL (B:Array Nat) (i:Nat):List (Nat×List Nat)→List Nat
 | []=>[]
 | (j,l)::r=>match inc B i j with
  | true=>l++hidL B i r
  | false=>hidL B i r
def hidTs (B:Array Nat) (i:Nat):Nat→List Oper→List Nat
 | _,[]=>[]
 | j,o::r=>match inc B i j,o.dst with
  | true,some t=>t::hidTs B i (j+1) r
  | _,_=>hidTs B i (j+1) r
theorem hidL_mem {B:Array Nat} {i id:Nat}:∀ {tch:List (Nat×List Nat)},hidH B i id tch=true→id∈hidL B i tch
 | [],h=>by cases h
 | (j,l)::r,h=>by
  simp only [hidH,Bool.or_eq_true,Bool.and_eq_true] at h
  simp only [hidL]
  rcases h with ⟨h1,h2⟩ | h
  ·rw [h2]
   obtain ⟨x,hx,he⟩:=List.any_eq_true.1 h1
   rw [← Nat.eq_of_beq_eq_true he]
   exact List.mem_append_left _ hx
  ·have:=hidL_mem h
   split
   ·exact List.mem_append_right _ this
   ·exact this
theorem hidTs_mem {B:Array Nat} {i t:Nat}:∀ {l:List Oper} {j:Nat},hidT B i t j l=true→t∈hidTs B i j l
 | [],j,h=>by cases h
 | o::r,j,h=>by
  simp only [hidT,Bool.or_eq_true,Bool.and_eq_true] at h
  simp only [hidTs]
  rcases h with ⟨h1,h2⟩ | h
  ·rw [h2,isD_iff.1 h1];simp
  ·have:=hidTs_mem h
   split
   ·exact List.mem_cons_of_mem _ this
   ·exact this
def tops:List Nat→List (Nat×TA)→List (Nat×TA)
 | [],l=>l
 | t::r,l=>(t,.top)::tops r l
theorem look_tops (l:List (Nat×TA)) (t:Nat):∀ L:List Nat,(t∈L∧look (tops L l) t=.top)∨(t ∉ L∧look (tops L l) t=look l t)
 | []=>.inr ⟨by simp,rfl⟩
 | i::r=>by
  simp only [tops,look]
  cases e:Nat.beq t i with
  | true=>exact .inl ⟨by simp [Nat.eq_of_beq_eq_true e],rfl⟩
  | false=>
   have hne:=Nat.ne_of_beq_eq_false e
   rcases look_tops l t r with ⟨h1,h2⟩ | ⟨h1,h2⟩
   ·exact .inl ⟨by simp [h1],h2⟩
   ·exact .inr ⟨by simp [h1,hne],h2⟩
def TSt.mask (T:TSt) (ops:List Oper) (B:Array Nat) (tch:List (Nat×List Nat)) (i:Nat):TSt:=
 { T with tm:=tops (hidTs B i 0 ops) T.tm,H:=updH T.H ((hidL B i tch).map fun id=>(id,none)) }
def allIn (l:List (Nat×Option TBlk)) (m:List Nat):Bool:=l.all fun p=>m.any fun x=>Nat.beq x p.1
def drOne (E:Env) (cts:List CT) (ops:List Oper) (B:Array Nat) (tch:List (Nat×List Nat)) (o:Oper) (i:Nat) (T:TSt) (b:Bool) (κ:TSt→Option R):Option R:=
 match b with
 | true=>evT E cts o (T.mask ops B tch i) (fun r=>match allIn r.up (tchOf tch i) with
  | true=>κ ((T.next r).put o.dst r.v)
  | false=>none) (fun _=>none)
 | false=>κ (T.put o.dst (.lit undef))
def evDr (E:Env) (cts:List CT) (ops:List Oper) (B:Array Nat) (tch:List (Nat×List Nat)):List Oper→Nat→TSt→(TSt→Option R)→Option R
 | [],_,T,κ=>κ T
 | o::rest,i,T,κ=>match okDst T o.dst with
  | true=>match wantT ⟨ops⟩ (T.mask ops B tch i) o with
   | some .yes=>drOne E cts ops B tch o i T true (fun T=>evDr E cts ops B tch rest (i+1) T κ)
   | some .no=>drOne E cts ops B tch o i T false (fun T=>evDr E cts ops B tch rest (i+1) T κ)
   | some (.on t b c)=>cond b (drOne E cts ops B tch o i (T.know t true) c (fun T=>evDr E cts ops B tch rest (i+1) T κ)) (drOne E cts ops B tch o i (T.know t false) (!c) (fun T=>evDr E cts ops B tch rest (i+1) T κ))
   | none=>none
  | false=>none
def evDraw (E:Env) (cts:List CT) (ops:List Oper) (B:Array Nat) (tch:List (Nat×List Nat)) (s:TSt) (κ:TSt→Option R):Option R:=
 match statOk ops B tch with
 | true=>evDr E cts ops B tch ops 0 s κ
 | false=>none
theorem shp_upd {H H':List (Nat×TBlk)} (h:∀ id,shp (lookH H id)=shp (lookH H' id)):∀ (up:List (Nat×Option TBlk)) (id:Nat),shp (lookH (updH H up) id)=shp (lookH (updH H' up) id)
 | [],id=>h id
 | (i,some b)::r,id=>by
  simp only [updH,lookH]
  cases Nat.beq id i with
  | true=>rfl
  | false=>exact shp_upd h r id
 | (i,none)::r,id=>by
  simp only [updH,lookH]
  cases Nat.beq id i with
  | true=>simp only [shp];exact shp_upd h r i
  | false=>exact shp_upd h r id
theorem sub_all {H H':List (Nat×TBlk)} (h:∀ id,shp (lookH H id)=shp (lookH H' id)) (N:Nat):Sub H H' N:=fun id _=>(h id).symm
theorem mask_shp {T:TSt} {ops:List Oper} {B:Array Nat} {tch:List (Nat×List Nat)} {i:Nat} (id:Nat):shp (lookH (T.mask ops B tch i).H id)=shp (lookH T.H id):=shp_strike _ _ _
theorem mask_ok {T:TSt} {ops:List Oper} {B:Array Nat} {tch:List (Nat×List Nat)} {i:Nat} (ho:T.ok):(T.mask ops B tch i).ok:=by
 have hs:=sub_all (fun id=>(mask_shp (T:=T) (ops:=ops) (B:=B) (tch:=tch) (i:=i) id).symm) T.N
 refine ⟨fun t=>?_,fun id l hl=>?_⟩
 ·show (look (tops (hidTs B i 0 ops) T.tm) t).wf _ T.N
  rcases look_tops T.tm t (hidTs B i 0 ops) with ⟨_,h⟩ | ⟨_,h⟩
  ·rw [h];simp only [TA.wf]
  ·rw [h];exact (av_sub hs (Nat.le_refl _) _ (ho.tm t)).2
 ·rcases look_strike T.H id (hidL B i tch) with ⟨_,x,h⟩ | ⟨_,h⟩
  ·simp only [TSt.mask] at hl
   rw [h] at hl;cases hl;simp only [TBlk.refs,wfL]
  ·simp only [TSt.mask] at hl
   rw [h] at hl
   exact (avL_sub hs (Nat.le_refl _) _ (ho.H id l hl)).2
theorem mask_tm {T:TSt} {ops:List Oper} {B:Array Nat} {tch:List (Nat×List Nat)} {i:Nat} (ho:T.ok) (t:Nat):(T.mask ops B tch i).st.tm t=.top∨(hidT B i t 0 ops=false∧(T.mask ops B tch i).st.tm t=(look T.tm t).av T.H):=by
 have hs:=sub_all (fun id=>(mask_shp (T:=T) (ops:=ops) (B:=B) (tch:=tch) (i:=i) id).symm) T.N
 simp only [TSt.st]
 rcases look_tops T.tm t (hidTs B i 0 ops) with ⟨_,h⟩ | ⟨h1,h⟩
 ·left
  show (look (tops (hidTs B i 0 ops) T.tm) t).av _=_
  rw [h];simp only [TA.av]
 ·right
  refine ⟨?_,?_⟩
  ·cases hh:hidT B i t 0 ops with
   | false=>rfl
   | true=>exact absurd (hidTs_mem hh) h1
  ·show (look (tops (hidTs B i 0 ops) T.tm) t).av _=_
   rw [h]
   exact (av_sub hs (Nat.le_refl _) _ (ho.tm t)).1
theorem blk_shp {H H':List (Nat×TBlk)} {N:Nat} (h:∀ id,shp (lookH H id)=shp (lookH H' id)) {b:TBlk} (hw:wfL H N b.refs):b.blk H'=b.blk H:=blk_sub (sub_all h N) hw
theorem mask_H {T:TSt} {ops:List Oper} {B:Array Nat} {tch:List (Nat×List Nat)} {i:Nat} (ho:T.ok) (id:Nat):(T.mask ops B tch i).st.H id=none∨(hidH B i id tch=false∧(T.mask ops B tch i).st.H id=hpT T.H id):=by
 rw [st_H]
 rcases look_strike T.H id (hidL B i tch) with ⟨_,x,h⟩ | ⟨h1,h⟩
 ·left
  show hpT (updH T.H _) id=none
  simp [hpT,h,TBlk.vis]
 ·right
  refine ⟨?_,?_⟩
  ·cases hh:hidH B i id tch with
   | false=>rfl
   | true=>exact absurd (hidL_mem hh) h1
  ·show hpT (updH T.H _) id=hpT T.H id
   unfold hpT
   rw [h]
   cases hb:lookH T.H id with
   | none=>rfl
   | some b=>
    simp only [Option.bind_some]
    have:=blk_shp (N:=T.N) (fun id=>(shp_strike T.H id (hidL B i tch)).symm) (b:=b) (ho.H id _ hb)
    rw [this]
structure Inv (s:TSt) (ops:List Oper) (tch:List (Nat×List Nat)) (T:TSt) (q:List RE):Prop where
 ok:T.ok
 nt:T.nt=s.nt
 N:wfN s.N q T.N
 tm:∀ t,(look T.tm t).av T.H=ovT (fun _=>true) s.st.tm q t
 H:∀ id,hpT T.H id=ovH (fun _=>true) s.st.H q id
 rec_:∀ j e,reAt q j=some e→∃ o,ops[j]?=some o∧e.d=o.dst∧∀ id,id∈e.up.map (·.1)→id∈tchOf tch j
theorem Inv.know {s:TSt} {ops:List Oper} {tch:List (Nat×List Nat)} {T:TSt} {q:List RE} (h:Inv s ops tch T q) {t:Nat} {b:Bool} (hl:look T.tm t=.d ⟨.bool,b⟩):Inv s ops tch (T.know t b) q:=by
 refine ⟨know_ok h.ok,h.nt,h.N,fun u=>?_,h.H,h.rec_⟩
 rw [← h.tm u]
 simp only [TSt.know,look]
 cases e:Nat.beq u t with
 | true=>rw [Nat.eq_of_beq_eq_true e,hl]
 | false=>rfl
theorem Inv.maskT {s:TSt} {ops:List Oper} {B:Array Nat} {tch:List (Nat×List Nat)} {T:TSt} {q:List RE} (hst:∀ i o,ops[i]?=some o→B.getD i 0 < 2 ^ i) (h:Inv s ops tch T q) (t:Nat):
  (T.mask ops B tch q.length).st.tm t=.top∨(hidT B q.length t 0 ops=false∧(T.mask ops B tch q.length).st.tm t=ovT (bit B q.length) s.st.tm q t):=by
 rcases mask_tm (ops:=ops) (B:=B) (tch:=tch) (i:=q.length) h.ok t with e | ⟨e1,e2⟩
 ·exact .inl e
 ·refine .inr ⟨e1,?_⟩
  rw [e2,h.tm t]
  refine ovT_congr fun j e hj hd=>?_
  obtain ⟨o,ho,hdo,_⟩:=h.rec_ j e hj
  have hinc:=hidT_false e1 j o ho (hdo▸hd)
  have hlt:=reAt_lt hj
  rw [Nat.zero_add] at hinc
  simp only [inc,Bool.and_eq_false_iff,Bool.not_eq_false'] at hinc
  rcases hinc with (h1 | h1) | h1
  ·have:=Nat.eq_of_beq_eq_true h1;omega
  ·exact h1.symm
  ·have:=bit_lt (hst j o ho) h1;omega
theorem Inv.maskH {s:TSt} {ops:List Oper} {B:Array Nat} {tch:List (Nat×List Nat)} {T:TSt} {q:List RE} (hst:∀ i o,ops[i]?=some o→B.getD i 0 < 2 ^ i) (h:Inv s ops tch T q) (id:Nat):
  (T.mask ops B tch q.length).st.H id=none∨(hidH B q.length id tch=false∧(T.mask ops B tch q.length).st.H id=ovH (bit B q.length) s.st.H q id):=by
 rcases mask_H (ops:=ops) (B:=B) (tch:=tch) (i:=q.length) h.ok id with e | ⟨e1,e2⟩
 ·exact .inl e
 ·refine .inr ⟨e1,?_⟩
  rw [e2,h.H id]
  refine ovH_congr fun j e hj hd=>?_
  obtain ⟨o,ho,_,hto⟩:=h.rec_ j e hj
  obtain ⟨p,hp,hpj,hpid⟩:=tchOf_mem (hto id hd)
  have hinc:=hidH_false e1 p hp hpid
  have hlt:=reAt_lt hj
  rw [hpj] at hinc
  simp only [inc,Bool.and_eq_false_iff,Bool.not_eq_false'] at hinc
  rcases hinc with (h1 | h1) | h1
  ·have:=Nat.eq_of_beq_eq_true h1;omega
  ·exact h1.symm
  ·have:=bit_lt (hst j o ho) h1;omega
end Go.Proofs.Ytljfmaaadnoggaa.Abs
