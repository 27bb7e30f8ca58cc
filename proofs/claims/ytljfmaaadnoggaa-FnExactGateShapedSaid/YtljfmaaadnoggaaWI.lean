/- Ranges over functions: what an iterator promises; a round. No condition. -/
import Derived.Test.YtljfmaaadnoggaaWD
import Derived.RangeFuncRecord
namespace Go.Proofs.Ytljfmaaadnoggaa.Abs
open Go Go.RowKit
variable {w w' w'':World} {F F' F'' O O' O'':Nat→Prop} {μ μ' μ'':Nat→Nat} {K K' K'':Nat→Prop} {ft ft':Nat→Nat→Prop} {P:Program} {R:Type}
structure IT where
 f:FuncId
 caps:List Pat
 tys:List Ty
 L:Fn' (tysL caps) (Option (List (Tup tys)))
structure Wf3 (w:World) (F O:Nat→Prop):Prop where
 wf:∀ b,F b→b < w.heap.size
 owf:∀ b,O b→b < w.heap.size
 nof:∀ b,O b→¬ F b
theorem HR.wf3 {H:Hp} (h:HR w F O μ K H ft):Wf3 w F O:=⟨h.wf,h.owf,h.nof⟩
def Stab {α:Type} (J:List α→World→(Nat→Prop)→(Nat→Prop)→Prop):Prop:=
 ∀ (z:List α) (w w':World) (F O F' O':Nat→Prop) (μ μ':Nat→Nat) (K:Nat→Prop),J z w F O→Wf3 w F O→Wf3 w' F' O'→Fr w F O μ K w' F' O' μ'→J z w' F' O'
def Rounds (P:Program) (l:Nat) (tys:List Ty) (J:List (Tup tys)→World→(Nat→Prop)→(Nat→Prop)→Prop):Prop:=
 ∀ (y:Tup tys) (r:List (Tup tys)) (w:World) (F O:Nat→Prop) (μ:Nat→Nat) (vs:List Value),J (y::r) w F O→Wf3 w F O→VRs w F μ NoK ((tupDyn tys y).map dav) vs→
  ∃ fn tmps as body,(Instr.yield l ⟨vs⟩).run P w=.ok (.round l fn tmps as body) w∧
   RoundIn (Wr none) 0 P l fn tmps as body w fun e w'=>∃ b,e=.returned (.bool b)∧Kp w w' F O∧J (cond b r []) w' F O
def IterOk (P:Program) (c:IT):Prop:=
 (∀ (xs:Array Value) (w:World),(callFunc c.f xs).run P w=.ok (.enter c.f xs) w)∧
 ∀ (x:Tup (tysL c.caps)) (xs:List (Tup c.tys)),appT _ c.L x=some xs→∀ (as:List TA),instL id c.caps (tupDyn _ x)=some (as,[])→
  ∀ (w:World) (F:Nat→Prop) (μ:Nat→Nat) (us:List Value),VRs w F μ NoK (avL [] as) us→(∀ b,F b→b < w.heap.size)→Pos w F→
  ∀ (l:Nat) (J:List (Tup c.tys)→World→(Nat→Prop)→(Nat→Prop)→Prop),Stab J→Rounds P l c.tys J→J xs w F (fun _=>False)→
   CallsIn (Wr none) 0 P c.f ⟨.func (.yield l) ⟨[]⟩ ⟨[]⟩::us⟩ w fun e w'=>∃ v F' O',e=.returned v∧J [] w' F' O'
def evIter (H:List (Nat×TBlk)) (fi:FuncId) (caps:List TA):List IT→((c:IT)→List (Tup c.tys)→Option R)→Option R
 | [],_=>none
 | c::r,κ=>match Nat.beq c.f fi with
  | true=>match extL H c.caps caps ⟨[],[]⟩ with
   | some (⟨[],[]⟩,ds)=>match castTup (tysL c.caps) ds with
    | some x=>(appT _ c.L x).bind (κ c)
    | none=>none
   | _=>none
  | false=>evIter H fi caps r κ
theorem evIter_some {H:List (Nat×TBlk)} {fi:FuncId} {caps:List TA} {z:R}:∀ {its:List IT} {κ:(c:IT)→List (Tup c.tys)→Option R},evIter H fi caps its κ=some z→
  ∃ c ds x xs,c∈its∧c.f=fi∧extL H c.caps caps ⟨[],[]⟩=some (⟨[],[]⟩,ds)∧castTup (tysL c.caps) ds=some x∧appT _ c.L x=some xs∧κ c xs=some z
 | [],κ,h=>by cases h
 | c::r,κ,h=>by
  simp only [evIter] at h
  split at h
  ·rename_i hf
   split at h
   ·rename_i ds he
    split at h
    ·rename_i x hx
     cases hl:appT _ c.L x with
     | none=>rw [hl] at h;cases h
     | some xs=>
      rw [hl] at h
      exact ⟨c,ds,x,xs,by simp,Nat.eq_of_beq_eq_true hf,he,hx,hl,h⟩
    ·cases h
   ·cases h
  ·obtain ⟨c',ds,x,xs,h1,h2⟩:=evIter_some h
   exact ⟨c',ds,x,xs,by simp [h1],h2⟩
theorem ext_closed {H:List (Nat×TBlk)} {ps:List Pat} {l:List TA} {ds:List Dyn} (h:extL H ps l ⟨[],[]⟩=some (⟨[],[]⟩,ds)):∃ as,instL id ps ds=some (as,[])∧
  ∀ {w:World} {F:Nat→Prop} {μ:Nat→Nat} {K:Nat→Prop} {vs:List Value},VRs w F μ K (avL H l) vs→VRs w F μ NoK (avL [] as) vs:=by
 obtain ⟨_,_,hx⟩:=extL_ok (H':=[]) (ρ:=id) h
 obtain ⟨as,h1,h2⟩:=hx []
 rw [List.append_nil] at h1
 refine ⟨as,h1,fun {w F μ K vs} hv=>h2 ⟨fun _ h=>h,?_,?_,?_⟩ hv⟩
 ·intro j id' hj;cases hj
 ·intro j id' hj;cases hj
 ·intro id' hj;cases hj
def iterL {α:Type} {ts:List Ty} (body:α→Fn' ts (Option R)→Fn' ts (Option R)) (done:Fn' ts (Option R)):List α→Fn' ts (Option R)
 | []=>done
 | y::r=>body y (iterL body done r)
def TSt.args (s:TSt) (ps:List Nat) (ds:List Dyn):TSt:={ s with tm:=((ps.zip (ds.map dynT)).reverse)++s.tm }
mutual
def TA.stays:TA→Bool
 | .ow _=>false
 | .rp _ _ _=>false
 | .agg cs=>staysL cs
 | .tup cs=>staysL cs
 | .ifc _ a=>a.stays
 | .fn _ xs ys=>staysL xs&&staysL ys
 | _=>true
def staysL:List TA→Bool
 | []=>true
 | a::r=>a.stays&&staysL r
end
def TSt.back (s s2:TSt):TSt:=⟨s.nt,s2.N,s.tm.map fun p=>(p.1,match p.2.stays with
 | true=>p.2
 | false=>.top),s2.H⟩
mutual
theorem stays_av {H H':List (Nat×TBlk)} {N N':Nat}:∀ (a:TA),a.stays=true→a.av H'=a.av H∧(a.wf H N→a.wf H' N')
 | .ow _,h=>by cases h
 | .rp _ _ _,h=>by cases h
 | .agg cs,h=>by
  simp only [TA.stays] at h
  have k:=stays_avL (H:=H) (H':=H') (N:=N) (N':=N') cs h
  exact ⟨by simp only [TA.av,k.1],fun hw=>by simp only [TA.wf] at hw ⊢;exact k.2 hw⟩
 | .tup cs,h=>by
  simp only [TA.stays] at h
  have k:=stays_avL (H:=H) (H':=H') (N:=N) (N':=N') cs h
  exact ⟨by simp only [TA.av,k.1],fun hw=>by simp only [TA.wf] at hw ⊢;exact k.2 hw⟩
 | .ifc t a,h=>by
  simp only [TA.stays] at h
  have k:=stays_av (H:=H) (H':=H') (N:=N) (N':=N') a h
  exact ⟨by simp only [TA.av,k.1],fun hw=>by simp only [TA.wf] at hw ⊢;exact k.2 hw⟩
 | .fn f xs ys,h=>by
  simp only [TA.stays,Bool.and_eq_true] at h
  have k1:=stays_avL (H:=H) (H':=H') (N:=N) (N':=N') xs h.1
  have k2:=stays_avL (H:=H) (H':=H') (N:=N) (N':=N') ys h.2
  exact ⟨by simp only [TA.av,k1.1,k2.1],fun hw=>by simp only [TA.wf] at hw ⊢;exact ⟨k1.2 hw.1,k2.2 hw.2⟩⟩
 | .top,_=>⟨by simp only [TA.av],fun _=>by simp only [TA.wf]⟩
 | .lit v,_=>⟨by simp only [TA.av],fun _=>by simp only [TA.wf]⟩
 | .d x,_=>⟨by simp only [TA.av],fun _=>by simp only [TA.wf]⟩
 | .nils,_=>⟨by simp only [TA.av],fun _=>by simp only [TA.wf]⟩
 | .fp t x off,_=>⟨by simp only [TA.av],fun _=>by simp only [TA.wf]⟩
 | .bs id n e,_=>⟨by simp only [TA.av],fun _=>by simp only [TA.wf]⟩
 | .bp id off,_=>⟨by simp only [TA.av],fun _=>by simp only [TA.wf]⟩
 | .mp id,_=>⟨by simp only [TA.av],fun _=>by simp only [TA.wf]⟩
theorem stays_avL {H H':List (Nat×TBlk)} {N N':Nat}:∀ (l:List TA),staysL l=true→avL H' l=avL H l∧(wfL H N l→wfL H' N' l)
 | [],_=>⟨by simp only [avL],fun _=>by simp only [wfL]⟩
 | a::r,h=>by
  simp only [staysL,Bool.and_eq_true] at h
  have k1:=stays_av (H:=H) (H':=H') (N:=N) (N':=N') a h.1
  have k2:=stays_avL (H:=H) (H':=H') (N:=N) (N':=N') r h.2
  exact ⟨by simp only [avL,k1.1,k2.1],fun hw=>by simp only [wfL] at hw ⊢;exact ⟨k1.2 hw.1,k2.2 hw.2⟩⟩
end
theorem look_back (t:Nat):∀ (l:List (Nat×TA)),look (l.map fun p=>(p.1,match p.2.stays with
  | true=>p.2
  | false=>.top)) t=(match (look l t).stays with
  | true=>look l t
  | false=>.top)
 | []=>by simp [look,TA.stays]
 | p::r=>by
  simp only [List.map_cons,look]
  cases Nat.beq t p.1 with
  | true=>rfl
  | false=>exact look_back t r
theorem back_SR {s s2:TSt} {a a2:Act} (ho:s.ok) (ho2:s2.ok) (hs:SR w F O μ (below s.N) s.st ft a) (hs2:SR w' F' O' μ' (below s2.N) s2.st ft' a2) (hf:∀ {x v},VR w F μ (below s.N) x v→VR w' F' μ' (below s2.N) x v) (hd:DfOk w' F' O' a.defers):
  (s.back s2).ok∧SR w' F' O' μ' (below (s.back s2).N) (s.back s2).st ft' a:=by
 refine ⟨⟨fun t=>?_,ho2.H⟩,⟨hs2.hr,hs.nt,fun t=>?_,hd⟩⟩
 ·show (look (s.back s2).tm t).wf s2.H s2.N
  simp only [TSt.back]
  rw [look_back]
  cases e:(look s.tm t).stays with
  | true=>exact (stays_av (H:=s.H) (N:=s.N) _ e).2 (ho.tm t)
  | false=>simp only [TA.wf]
 ·show VR w' F' μ' (below s2.N) ((look (s.back s2).tm t).av s2.H) _
  simp only [TSt.back]
  rw [look_back]
  cases e:(look s.tm t).stays with
  | true=>
   simp only
   rw [(stays_av (H:=s.H) (H':=s2.H) (N:=s.N) (N':=s.N) _ e).1]
   exact hf (hs.tm t)
  | false=>simp only [TA.av];exact .top _
theorem tupDyn_length:∀ (ts:List Ty) (x:Tup ts),(tupDyn ts x).length=ts.length
 | [],_=>rfl
 | _::ts,x=>by simp only [tupDyn,List.length_cons,tupDyn_length ts x.2]
theorem zipfold (ps:List Nat) (vs:List Value) (a:Array Value):(((⟨ps⟩:Array Nat).zip ⟨vs⟩).foldl (fun tmps (t,v)=>tmps.setIfInBounds t v) a)=(ps.zip vs).foldl (fun tmps (t,v)=>tmps.setIfInBounds t v) a:=by
 rw [← Array.foldl_toList]
 simp
theorem pfold_size:∀ (l:List (Nat×Value)) (a:Array Value),(l.foldl (fun tmps (t,v)=>tmps.setIfInBounds t v) a).size=a.size
 | [],_=>rfl
 | p::r,a=>by simp only [List.foldl_cons];rw [pfold_size r];simp
theorem args_SR {nt:Nat}:∀ {ps:List Nat} {ds:List Dyn} {vs:List Value} {tm:List (Nat×TA)} {H:List (Nat×TBlk)} {a:Array Value},VRs w F μ K (ds.map dav) vs→a.size=nt→ps.all (fun t=>t.blt nt)=true→(∀ t,VR w F μ K ((look tm t).av H) (a.getD t undef))→
  ∀ t,VR w F μ K ((look ((ps.zip (ds.map dynT)).reverse++tm) t).av H) (((ps.zip vs).foldl (fun tmps (t,v)=>tmps.setIfInBounds t v) a).getD t undef)
 | [],ds,vs,tm,H,a,_,_,_,h,t=>by simpa using h t
 | p::ps,[],vs,tm,H,a,hv,_,_,h,t=>by
  simp only [List.map_nil] at hv
  rw [hv.nil_inv]
  simpa using h t
 | p::ps,y::ds,vs,tm,H,a,hv,hsz,hp,h,t=>by
  simp only [List.map_cons] at hv
  obtain ⟨v,r,rfl,h1,h2⟩:=hv.cons_inv
  simp only [List.all_cons,Bool.and_eq_true] at hp
  have hlt:p < nt:=Nat.le_of_ble_eq_true hp.1
  simp only [List.map_cons,List.zip_cons_cons,List.reverse_cons,List.append_assoc,List.cons_append,List.nil_append,List.foldl_cons]
  refine args_SR (tm:=(p,dynT y)::tm) h2 (by simpa using hsz) hp.2 (fun u=>?_) t
  simp only [look]
  cases e:Nat.beq u p with
  | true=>
   have e:=Nat.eq_of_beq_eq_true e
   subst e
   simp only [dynT_av]
   have:u < a.size:=by omega
   simpa [this] using h1
  | false=>
   have hne:p≠u:=fun h=>by subst h;simp at e
   have:=h u
   simp only [Array.getD_eq_getD_getElem?] at this ⊢
   rw [Array.getElem?_setIfInBounds_ne hne]
   exact this
theorem look_args_wf {H:List (Nat×TBlk)} {N:Nat} {ds:List Dyn} {tm:List (Nat×TA)} (h:∀ t,(look tm t).wf H N):∀ (ps:List Nat) t,(look ((ps.zip (ds.map dynT)).reverse++tm) t).wf H N:=by
 have key:∀ (l:List (Nat×TA)),(∀ p,p∈l→p.2.wf H N)→∀ t,(look (l++tm) t).wf H N:=by
  intro l
  induction l with
  | nil=>intro _ t;exact h t
  | cons p r ih=>
   intro hl t
   simp only [List.cons_append,look]
   cases Nat.beq t p.1 with
   | true=>exact hl p (by simp)
   | false=>exact ih (fun q hq=>hl q (by simp [hq])) t
 intro ps t
 refine key _ (fun p hp=>?_) t
 have hp:=List.mem_reverse.1 hp
 have:=(List.of_mem_zip hp).2
 obtain ⟨y,_,e⟩:=List.mem_map.1 this
 rw [← e]
 exact dynT_wf _ _ _
def Away (w:World) (F O:Nat→Prop) (b:Nat):Prop:=b < w.heap.size∧¬ F b∧¬ O b
theorem Away.step {b:Nat} (h:Away w F O b) (hf:Fr w F O μ K w' F' O' μ'):Away w' F' O' b:=by
 obtain ⟨h1,h2,h3⟩:=h
 refine ⟨Nat.lt_of_lt_of_le h1 hf.size,fun h=>?_,fun h=>?_⟩
 ·rcases hf.fnew b h with h | h | h
  ·exact h2 h
  ·omega
  ·exact h3 h
 ·rcases hf.onew b h with h | h
  ·exact h3 h
  ·omega
theorem Away.same {b:Nat} (h:Away w F O b) (hf:Fr w F O μ K w' F' O' μ'):w'.heap[b]?=w.heap[b]?:=hf.same b h.1 h.2.2
structure RecAt (l:Nat) (w w':World):Prop where
 os:w'.os=w.os
 tape:w'.tape=w.tape
 output:w'.output=w.output
 size:w'.heap.size=w.heap.size
 same:∀ b,b≠l→w'.heap[b]?=w.heap[b]?
 shape:∀ b,w'.shape? b=w.shape? b
 nd:w.heap[l]?≠some (Obj.deferred (some []))
theorem recAt_put {l:Nat} {r r':Loop} (h:w.heap[l]?=some (.loop r)):RecAt l w (w.putObj l (.loop r'))∧(w.putObj l (.loop r')).heap[l]?=some (.loop r'):=by
 have hlt:l < w.heap.size:=(Array.getElem?_eq_some_iff.1 h).1
 refine ⟨⟨rfl,rfl,rfl,by simp,fun b hb=>World.putObj_heap_other hb,fun b=>?_,by rw [h];simp⟩,World.putObj_heap_same hlt⟩
 by_cases e:b=l
 ·subst e;simp only [World.shape?,h,World.putObj_heap_same hlt]
 ·simp only [World.shape?,World.putObj_heap_other e]
theorem RecAt.kp {l:Nat} (h:RecAt l w w') (hF:¬ F l) (hO:¬ O l):Kp w w' F O where
 os:=h.os
 tape:=h.tape
 output:=h.output
 size:=Nat.le_of_eq h.size.symm
 keep:=fun b hb=>h.same b fun e=>by subst e;exact hb.elim hF hO
 shape:=fun b _=>h.shape b
theorem RecAt.df {l:Nat} {ds:List Deferred} (h:RecAt l w w') (hd:DfOk w F O ds):DfOk w' F O ds:=hd.same fun b hb=>h.same b fun e=>by subst e;exact h.nd hb
theorem Fr.rec_ {l:Nat} (h:Fr w F O μ K w' F' O' μ') (k:RecAt l w' w'') (hl:w.heap.size≤l):Fr w F O μ K w'' F' O' μ':=
 { h with os:=k.os.trans h.os,tape:=k.tape.trans h.tape,output:=k.output.trans h.output,size:=by rw [k.size];exact h.size,shape:=fun b hb=>(k.shape b).trans (h.shape b hb),same:=fun b hb hn=>(k.same b (by omega)).trans (h.same b hb hn) }
theorem Away.rec_ {l b:Nat} (h:Away w F O b) (k:RecAt l w w'):Away w' F O b:=⟨by rw [k.size];exact h.1,h.2⟩
theorem Here.rec_ {l m0:Nat} {n0:Nat×Nat} {s':TSt} {a':Act} (h:Here w F O μ m0 n0 s' a' w' F' O' μ' ft') (k:RecAt l w' w'') (hl:w.heap.size≤l) (hF:¬ F' l) (hO:¬ O' l):Here w F O μ m0 n0 s' a' w'' F' O' μ' ft':=
 ⟨h.ok,h.le,h.nt,⟨h.sr.hr.kp (k.kp hF hO),h.sr.nt,fun t=>(h.sr.tm t).kp h.sr.hr (k.kp hF hO),k.df h.sr.df⟩,h.fr.rec_ k hl⟩
def noRF:Code→Bool
 | .seq x y=>noRF x&&noRF y
 | .cond _ x y=>noRF x&&noRF y
 | .block _ c=>noRF c
 | .loop c=>noRF c
 | .scope c=>noRF c
 | .rangeFunc _ _ _ _=>false
 | _=>true
end Go.Proofs.Ytljfmaaadnoggaa.Abs
