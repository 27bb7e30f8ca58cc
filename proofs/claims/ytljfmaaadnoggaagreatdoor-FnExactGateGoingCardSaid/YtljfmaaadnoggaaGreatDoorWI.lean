/- Ranges over functions: what an iterator promises; a round. No condition. -/
import Derived.Test.YtljfmaaadnoggaaGreatDoorWD
import Derived.RangeFuncRecord
namespace Go.Proofs.YtljfmaaadnoggaaGreatDoor.cX
open Go Go.RowKit
variable {w w' xW:World} {F F' Cq O O' wx:Nat→Prop} {μ bC kZ:Nat→Nat} {K K' Gg:Nat→Prop} {ft b8:Nat→Nat→Prop} {P:Program} {R:Type}
structure IT where
 f:FuncId
 BD:List wR
 ef:List Ty
 L:Oa (ES BD) (Option (List (Ad ef)))
structure Wf3 (w:World) (F O:Nat→Prop):Prop where
 wf:∀ b,F b→b < w.heap.size
 rH:∀ b,O b→b < w.heap.size
 z8:∀ b,O b→¬ F b
theorem HR.wf3 {H:Hp} (h:HR w F O μ K H ft):Wf3 w F O:=⟨h.wf,h.rH,h.z8⟩
def aa7 {α:Type} (J:List α→World→(Nat→Prop)→(Nat→Prop)→Prop):Prop:=
 ∀ (z:List α) (w w':World) (F O F' O':Nat→Prop) (μ bC:Nat→Nat) (K:Nat→Prop),J z w F O→Wf3 w F O→Wf3 w' F' O'→Fr w F O μ K w' F' O' bC→J z w' F' O'
def QA (P:Program) (l:Nat) (ef:List Ty) (J:List (Ad ef)→World→(Nat→Prop)→(Nat→Prop)→Prop):Prop:=
 ∀ (y:Ad ef) (r:List (Ad ef)) (w:World) (F O:Nat→Prop) (μ:Nat→Nat) (vs:List Value),J (y::r) w F O→Wf3 w F O→iR w F μ Ei ((e_ ef y).map cN) vs→
  ∃ fn tmps as body,(Instr.yield l ⟨vs⟩).run P w=.ok (.round l fn tmps as body) w∧
   RoundIn (Wr none) 0 P l fn tmps as body w fun e w'=>∃ b,e=.returned (.bool b)∧Kp w w' F O∧J (cond b r []) w' F O
def L0 (P:Program) (c:IT):Prop:=
 (∀ (xs:Array Value) (w:World),(callFunc c.f xs).run P w=.ok (.enter c.f xs) w)∧
 ∀ (x:Ad (ES c.BD)) (xs:List (Ad c.ef)),zA _ c.L x=some xs→∀ (as:List TA),instL id c.BD (e_ _ x)=some (as,[])→
  ∀ (w:World) (F:Nat→Prop) (μ:Nat→Nat) (us:List Value),iR w F μ Ei (dU [] as) us→(∀ b,F b→b < w.heap.size)→Pos w F→
  ∀ (l:Nat) (J:List (Ad c.ef)→World→(Nat→Prop)→(Nat→Prop)→Prop),aa7 J→QA P l c.ef J→J xs w F (fun _=>False)→
   CallsIn (Wr none) 0 P c.f ⟨.func (.yield l) ⟨[]⟩ ⟨[]⟩::us⟩ w fun e w'=>∃ v F' O',e=.returned v∧J [] w' F' O'
def Ut (H:List (Nat×aY)) (fi:FuncId) (BD:List TA):List IT→((c:IT)→List (Ad c.ef)→Option R)→Option R
 | [],_=>none
 | c::r,κ=>match Nat.beq c.f fi with
  | true=>match Gy H c.BD BD ⟨[],[]⟩ with
   | some (⟨[],[]⟩,ds)=>match oN (ES c.BD) ds with
    | some x=>(zA _ c.L x).bind (κ c)
    | none=>none
   | _=>none
  | false=>Ut H fi BD r κ
theorem NI {H:List (Nat×aY)} {fi:FuncId} {BD:List TA} {z:R}:∀ {its:List IT} {κ:(c:IT)→List (Ad c.ef)→Option R},Ut H fi BD its κ=some z→
  ∃ c ds x xs,c∈its∧c.f=fi∧Gy H c.BD BD ⟨[],[]⟩=some (⟨[],[]⟩,ds)∧oN (ES c.BD) ds=some x∧zA _ c.L x=some xs∧κ c xs=some z
 | [],κ,h=>by cases h
 | c::r,κ,h=>by
  simp only [Ut] at h
  split at h
  ·rename_i hf
   split at h
   ·rename_i ds he
    split at h
    ·rename_i x hx
     cases hl:zA _ c.L x with
     | none=>rw [hl] at h;cases h
     | some xs=>
      rw [hl] at h
      exact ⟨c,ds,x,xs,by simp,Nat.eq_of_beq_eq_true hf,he,hx,hl,h⟩
    ·cases h
   ·cases h
  ·obtain ⟨c',ds,x,xs,h1,h2⟩:=NI h
   exact ⟨c',ds,x,xs,by simp [h1],h2⟩
theorem Qz {H:List (Nat×aY)} {ps:List wR} {l:List TA} {ds:List cI} (h:Gy H ps l ⟨[],[]⟩=some (⟨[],[]⟩,ds)):∃ as,instL id ps ds=some (as,[])∧
  ∀ {w:World} {F:Nat→Prop} {μ:Nat→Nat} {K:Nat→Prop} {vs:List Value},iR w F μ K (dU H l) vs→iR w F μ Ei (dU [] as) vs:=by
 obtain ⟨_,_,hx⟩:=yj (H':=[]) (ρ:=id) h
 obtain ⟨as,h1,h2⟩:=hx []
 rw [List.append_nil] at h1
 refine ⟨as,h1,fun {w F μ K vs} hv=>h2 ⟨fun _ h=>h,?_,?_,?_⟩ hv⟩
 ·intro j cg hj;cases hj
 ·intro j cg hj;cases hj
 ·intro cg hj;cases hj
def DL {α:Type} {ts:List Ty} (body:α→Oa ts (Option R)→Oa ts (Option R)) (done:Oa ts (Option R)):List α→Oa ts (Option R)
 | []=>done
 | y::r=>body y (DL body done r)
def bQ.args (s:bQ) (ps:List Nat) (ds:List cI):bQ:={ s with tm:=((ps.zip (ds.map ET)).reverse)++s.tm }
mutual
def TA.stays:TA→Bool
 | .ow _=>false
 | .rp _ _ _=>false
 | .agg cs=>JZ cs
 | .ph cs=>JZ cs
 | .pe _ a=>a.stays
 | .fn _ xs ys=>JZ xs&&JZ ys
 | _=>true
def JZ:List TA→Bool
 | []=>true
 | a::r=>a.stays&&JZ r
end
def bQ.back (s s2:bQ):bQ:=⟨s.nt,s2.N,s.tm.map fun p=>(p.1,match p.2.stays with
 | true=>p.2
 | false=>.top),s2.H⟩
mutual
theorem LB {H H':List (Nat×aY)} {N N':Nat}:∀ (a:TA),a.stays=true→a.av H'=a.av H∧(a.wf H N→a.wf H' N')
 | .ow _,h=>by cases h
 | .rp _ _ _,h=>by cases h
 | .agg cs,h=>by
  simp only [TA.stays] at h
  have k:=CJ (H:=H) (H':=H') (N:=N) (N':=N') cs h
  exact ⟨by simp only [TA.av,k.1],fun hw=>by simp only [TA.wf] at hw ⊢;exact k.2 hw⟩
 | .ph cs,h=>by
  simp only [TA.stays] at h
  have k:=CJ (H:=H) (H':=H') (N:=N) (N':=N') cs h
  exact ⟨by simp only [TA.av,k.1],fun hw=>by simp only [TA.wf] at hw ⊢;exact k.2 hw⟩
 | .pe t a,h=>by
  simp only [TA.stays] at h
  have k:=LB (H:=H) (H':=H') (N:=N) (N':=N') a h
  exact ⟨by simp only [TA.av,k.1],fun hw=>by simp only [TA.wf] at hw ⊢;exact k.2 hw⟩
 | .fn f xs ys,h=>by
  simp only [TA.stays,Bool.and_eq_true] at h
  have k1:=CJ (H:=H) (H':=H') (N:=N) (N':=N') xs h.1
  have k2:=CJ (H:=H) (H':=H') (N:=N) (N':=N') ys h.2
  exact ⟨by simp only [TA.av,k1.1,k2.1],fun hw=>by simp only [TA.wf] at hw ⊢;exact ⟨k1.2 hw.1,k2.2 hw.2⟩⟩
 | .top,_=>⟨by simp only [TA.av],fun _=>by simp only [TA.wf]⟩
 | .lit v,_=>⟨by simp only [TA.av],fun _=>by simp only [TA.wf]⟩
 | .d x,_=>⟨by simp only [TA.av],fun _=>by simp only [TA.wf]⟩
 | .ff,_=>⟨by simp only [TA.av],fun _=>by simp only [TA.wf]⟩
 | .fp t x off,_=>⟨by simp only [TA.av],fun _=>by simp only [TA.wf]⟩
 | .bs id n e,_=>⟨by simp only [TA.av],fun _=>by simp only [TA.wf]⟩
 | .bp id off,_=>⟨by simp only [TA.av],fun _=>by simp only [TA.wf]⟩
 | .mp id,_=>⟨by simp only [TA.av],fun _=>by simp only [TA.wf]⟩
theorem CJ {H H':List (Nat×aY)} {N N':Nat}:∀ (l:List TA),JZ l=true→dU H' l=dU H l∧(iw H N l→iw H' N' l)
 | [],_=>⟨by simp only [dU],fun _=>by simp only [iw]⟩
 | a::r,h=>by
  simp only [JZ,Bool.and_eq_true] at h
  have k1:=LB (H:=H) (H':=H') (N:=N) (N':=N') a h.1
  have k2:=CJ (H:=H) (H':=H') (N:=N) (N':=N') r h.2
  exact ⟨by simp only [dU,k1.1,k2.1],fun hw=>by simp only [iw] at hw ⊢;exact ⟨k1.2 hw.1,k2.2 hw.2⟩⟩
end
theorem M4 (t:Nat):∀ (l:List (Nat×TA)),look (l.map fun p=>(p.1,match p.2.stays with
  | true=>p.2
  | false=>.top)) t=(match (look l t).stays with
  | true=>look l t
  | false=>.top)
 | []=>by simp [look,TA.stays]
 | p::r=>by
  simp only [List.map_cons,look]
  cases Nat.beq t p.1 with
  | true=>rfl
  | false=>exact M4 t r
theorem aeB {s s2:bQ} {a a2:Act} (ho:s.ok) (ho2:s2.ok) (hs:SR w F O μ (below s.N) s.st ft a) (hs2:SR w' F' O' bC (below s2.N) s2.st b8 a2) (hf:∀ {x v},VR w F μ (below s.N) x v→VR w' F' bC (below s2.N) x v) (hd:wP w' F' O' a.defers):
  (s.back s2).ok∧SR w' F' O' bC (below (s.back s2).N) (s.back s2).st b8 a:=by
 refine ⟨⟨fun t=>?_,ho2.H⟩,⟨hs2.hr,hs.nt,fun t=>?_,hd⟩⟩
 ·show (look (s.back s2).tm t).wf s2.H s2.N
  simp only [bQ.back]
  rw [M4]
  cases e:(look s.tm t).stays with
  | true=>exact (LB (H:=s.H) (N:=s.N) _ e).2 (ho.tm t)
  | false=>simp only [TA.wf]
 ·show VR w' F' bC (below s2.N) ((look (s.back s2).tm t).av s2.H) _
  simp only [bQ.back]
  rw [M4]
  cases e:(look s.tm t).stays with
  | true=>
   simp only
   rw [(LB (H:=s.H) (H':=s2.H) (N:=s.N) (N':=s.N) _ e).1]
   exact hf (hs.tm t)
  | false=>simp only [TA.av];exact .top _
theorem IH:∀ (ts:List Ty) (x:Ad ts),(e_ ts x).length=ts.length
 | [],_=>rfl
 | _::ts,x=>by simp only [e_,List.length_cons,IH ts x.2]
theorem aez (ps:List Nat) (vs:List Value) (a:Array Value):(((⟨ps⟩:Array Nat).zip ⟨vs⟩).foldl (fun tmps (t,v)=>tmps.setIfInBounds t v) a)=(ps.zip vs).foldl (fun tmps (t,v)=>tmps.setIfInBounds t v) a:=by
 rw [← Array.foldl_toList]
 simp
theorem QB:∀ (l:List (Nat×Value)) (a:Array Value),(l.foldl (fun tmps (t,v)=>tmps.setIfInBounds t v) a).size=a.size
 | [],_=>rfl
 | p::r,a=>by simp only [List.foldl_cons];rw [QB r];simp
theorem ZF {nt:Nat}:∀ {ps:List Nat} {ds:List cI} {vs:List Value} {tm:List (Nat×TA)} {H:List (Nat×aY)} {a:Array Value},iR w F μ K (ds.map cN) vs→a.size=nt→ps.all (fun t=>t.blt nt)=true→(∀ t,VR w F μ K ((look tm t).av H) (a.getD t undef))→
  ∀ t,VR w F μ K ((look ((ps.zip (ds.map ET)).reverse++tm) t).av H) (((ps.zip vs).foldl (fun tmps (t,v)=>tmps.setIfInBounds t v) a).getD t undef)
 | [],ds,vs,tm,H,a,_,_,_,h,t=>by simpa using h t
 | p::ps,[],vs,tm,H,a,hv,_,_,h,t=>by
  simp only [List.map_nil] at hv
  rw [hv.iH]
  simpa using h t
 | p::ps,y::ds,vs,tm,H,a,hv,fL,hp,h,t=>by
  simp only [List.map_cons] at hv
  obtain ⟨v,r,rfl,h1,h2⟩:=hv.cons_inv
  simp only [List.all_cons,Bool.and_eq_true] at hp
  have dQ:p < nt:=Nat.le_of_ble_eq_true hp.1
  simp only [List.map_cons,List.zip_cons_cons,List.reverse_cons,List.append_assoc,List.cons_append,List.nil_append,List.foldl_cons]
  refine ZF (tm:=(p,ET y)::tm) h2 (by simpa using fL) hp.2 (fun u=>?_) t
  simp only [look]
  cases e:Nat.beq u p with
  | true=>
   have e:=Nat.eq_of_beq_eq_true e
   subst e
   simp only [Ow]
   have:u < a.size:=by omega
   simpa [this] using h1
  | false=>
   have pw:p≠u:=fun h=>by subst h;simp at e
   have:=h u
   simp only [Array.getD_eq_getD_getElem?] at this ⊢
   rw [Array.getElem?_setIfInBounds_ne pw]
   exact this
theorem Uw {H:List (Nat×aY)} {N:Nat} {ds:List cI} {tm:List (Nat×TA)} (h:∀ t,(look tm t).wf H N):∀ (ps:List Nat) t,(look ((ps.zip (ds.map ET)).reverse++tm) t).wf H N:=by
 have key:∀ (l:List (Nat×TA)),(∀ p,p∈l→p.2.wf H N)→∀ t,(look (l++tm) t).wf H N:=by
  intro l
  induction l with
  | nil=>intro _ t;exact h t
  | cons p r ih=>
   intro hl t
   simp only [List.cons_append,look]
   cases Nat.beq t p.1 with
   | true=>exact hl p (by simp)
   | false=>exact ih (fun q hq=>hl q (by simp [hq])) t
 intro ps t
 refine key _ (fun p hp=>?_) t
 have hp:=List.mem_reverse.1 hp
 have:=(List.of_mem_zip hp).2
 obtain ⟨y,_,e⟩:=List.mem_map.1 this
 rw [← e]
 exact Zo _ _ _
def MU (w:World) (F O:Nat→Prop) (b:Nat):Prop:=b < w.heap.size∧¬ F b∧¬ O b
theorem MU.step {b:Nat} (h:MU w F O b) (hf:Fr w F O μ K w' F' O' bC):MU w' F' O' b:=by
 obtain ⟨h1,h2,h3⟩:=h
 refine ⟨Nat.lt_of_lt_of_le h1 hf.size,fun h=>?_,fun h=>?_⟩
 ·rcases hf.JB b h with h | h | h
  ·exact h2 h
  ·omega
  ·exact h3 h
 ·rcases hf.Gf b h with h | h
  ·exact h3 h
  ·omega
theorem MU.same {b:Nat} (h:MU w F O b) (hf:Fr w F O μ K w' F' O' bC):w'.heap[b]?=w.heap[b]?:=hf.same b h.1 h.2.2
structure NK (l:Nat) (w w':World):Prop where
 os:w'.os=w.os
 tape:w'.tape=w.tape
 output:w'.output=w.output
 size:w'.heap.size=w.heap.size
 same:∀ b,b≠l→w'.heap[b]?=w.heap[b]?
 shape:∀ b,w'.shape? b=w.shape? b
 nd:w.heap[l]?≠some (Obj.deferred (some []))
theorem He {l:Nat} {r r':Loop} (h:w.heap[l]?=some (.loop r)):NK l w (w.putObj l (.loop r'))∧(w.putObj l (.loop r')).heap[l]?=some (.loop r'):=by
 have dQ:l < w.heap.size:=(Array.getElem?_eq_some_iff.1 h).1
 refine ⟨⟨rfl,rfl,rfl,by simp,fun b hb=>World.putObj_heap_other hb,fun b=>?_,by rw [h];simp⟩,World.putObj_heap_same dQ⟩
 by_cases e:b=l
 ·subst e;simp only [World.shape?,h,World.putObj_heap_same dQ]
 ·simp only [World.shape?,World.putObj_heap_other e]
theorem NK.kp {l:Nat} (h:NK l w w') (hF:¬ F l) (hO:¬ O l):Kp w w' F O where
 os:=h.os
 tape:=h.tape
 output:=h.output
 size:=Nat.le_of_eq h.size.symm
 NZ:=fun b hb=>h.same b fun e=>by subst e;exact hb.elim hF hO
 shape:=fun b _=>h.shape b
theorem NK.df {l:Nat} {ds:List Deferred} (h:NK l w w') (hd:wP w F O ds):wP w' F O ds:=hd.same fun b hb=>h.same b fun e=>by subst e;exact h.nd hb
theorem Fr.BC {l:Nat} (h:Fr w F O μ K w' F' O' bC) (k:NK l w' xW) (hl:w.heap.size≤l):Fr w F O μ K xW F' O' bC:=
 { h with os:=k.os.trans h.os,tape:=k.tape.trans h.tape,output:=k.output.trans h.output,size:=by rw [k.size];exact h.size,shape:=fun b hb=>(k.shape b).trans (h.shape b hb),same:=fun b hb hn=>(k.same b (by omega)).trans (h.same b hb hn) }
theorem MU.BC {l b:Nat} (h:MU w F O b) (k:NK l w w'):MU w' F O b:=⟨by rw [k.size];exact h.1,h.2⟩
theorem Ae.BC {l m0:Nat} {n0:Nat×Nat} {s':bQ} {a':Act} (h:Ae w F O μ m0 n0 s' a' w' F' O' bC b8) (k:NK l w' xW) (hl:w.heap.size≤l) (hF:¬ F' l) (hO:¬ O' l):Ae w F O μ m0 n0 s' a' xW F' O' bC b8:=
 ⟨h.ok,h.le,h.nt,⟨h.sr.hr.kp (k.kp hF hO),h.sr.nt,fun t=>(h.sr.tm t).kp h.sr.hr (k.kp hF hO),k.df h.sr.df⟩,h.fr.BC k hl⟩
def wS:Code→Bool
 | .seq x y=>wS x&&wS y
 | .cond _ x y=>wS x&&wS y
 | .block _ c=>wS c
 | .loop c=>wS c
 | .scope c=>wS c
 | .rangeFunc _ _ _ _=>false
 | _=>true
end Go.Proofs.YtljfmaaadnoggaaGreatDoor.cX
