/- Ranges over functions: what an iterator promises; a round. No condition. -/
import Derived.Test.YtljfmaaadnoggaaGreatDoorWD
import Derived.RangeFuncRecord
namespace Go.Proofs.YtljfmaaadnoggaaGreatDoor.cU
open Go Go.RowKit
variable {w w' vP:World} {F F' Am O O' ux:Nat→Prop} {μ bB jV:Nat→Nat} {K K' DQ:Nat→Prop} {ft b7:Nat→Nat→Prop} {P:Program} {R:Type}
structure IT where
 f:FuncId
 zA:List uQ
 dR:List Ty
 L:LQ (CG zA) (Option (List (x4 dR)))
structure Wf3 (w:World) (F O:Nat→Prop):Prop where
 wf:∀ b,F b→b < w.heap.size
 p0:∀ b,O b→b < w.heap.size
 xW:∀ b,O b→¬ F b
theorem HR.wf3 {H:Hp} (h:HR w F O μ K H ft):Wf3 w F O:=⟨h.wf,h.p0,h.xW⟩
def XY {α:Type} (J:List α→World→(Nat→Prop)→(Nat→Prop)→Prop):Prop:=
 ∀ (z:List α) (w w':World) (F O F' O':Nat→Prop) (μ bB:Nat→Nat) (K:Nat→Prop),J z w F O→Wf3 w F O→Wf3 w' F' O'→Fr w F O μ K w' F' O' bB→J z w' F' O'
def NY (P:Program) (l:Nat) (dR:List Ty) (J:List (x4 dR)→World→(Nat→Prop)→(Nat→Prop)→Prop):Prop:=
 ∀ (y:x4 dR) (r:List (x4 dR)) (w:World) (F O:Nat→Prop) (μ:Nat→Nat) (vs:List Value),J (y::r) w F O→Wf3 w F O→hP w F μ B_ ((eG dR y).map cK) vs→
  ∃ fn tmps as body,(Instr.yield l ⟨vs⟩).run P w=.ok (.round l fn tmps as body) w∧
   RoundIn (Wr none) 0 P l fn tmps as body w fun e w'=>∃ b,e=.returned (.bool b)∧Kp w w' F O∧J (cond b r []) w' F O
def JE (P:Program) (c:IT):Prop:=
 (∀ (xs:Array Value) (w:World),(callFunc c.f xs).run P w=.ok (.enter c.f xs) w)∧
 ∀ (x:x4 (CG c.zA)) (xs:List (x4 c.dR)),xy _ c.L x=some xs→∀ (as:List TA),instL id c.zA (eG _ x)=some (as,[])→
  ∀ (w:World) (F:Nat→Prop) (μ:Nat→Nat) (us:List Value),hP w F μ B_ (dJ [] as) us→(∀ b,F b→b < w.heap.size)→Pos w F→
  ∀ (l:Nat) (J:List (x4 c.dR)→World→(Nat→Prop)→(Nat→Prop)→Prop),XY J→NY P l c.dR J→J xs w F (fun _=>False)→
   CallsIn (Wr none) 0 P c.f ⟨.func (.yield l) ⟨[]⟩ ⟨[]⟩::us⟩ w fun e w'=>∃ v F' O',e=.returned v∧J [] w' F' O'
def RB (H:List (Nat×aW)) (fi:FuncId) (zA:List TA):List IT→((c:IT)→List (x4 c.dR)→Option R)→Option R
 | [],_=>none
 | c::r,κ=>match Nat.beq c.f fi with
  | true=>match D7 H c.zA zA ⟨[],[]⟩ with
   | some (⟨[],[]⟩,ds)=>match nw (CG c.zA) ds with
    | some x=>(xy _ c.L x).bind (κ c)
    | none=>none
   | _=>none
  | false=>RB H fi zA r κ
theorem Lq {H:List (Nat×aW)} {fi:FuncId} {zA:List TA} {z:R}:∀ {its:List IT} {κ:(c:IT)→List (x4 c.dR)→Option R},RB H fi zA its κ=some z→
  ∃ c ds x xs,c∈its∧c.f=fi∧D7 H c.zA zA ⟨[],[]⟩=some (⟨[],[]⟩,ds)∧nw (CG c.zA) ds=some x∧xy _ c.L x=some xs∧κ c xs=some z
 | [],κ,h=>by cases h
 | c::r,κ,h=>by
  simp only [RB] at h
  split at h
  ·rename_i hf
   split at h
   ·rename_i ds he
    split at h
    ·rename_i x hx
     cases hl:xy _ c.L x with
     | none=>rw [hl] at h;cases h
     | some xs=>
      rw [hl] at h
      exact ⟨c,ds,x,xs,by simp,Nat.eq_of_beq_eq_true hf,he,hx,hl,h⟩
    ·cases h
   ·cases h
  ·obtain ⟨c',ds,x,xs,h1,h2⟩:=Lq h
   exact ⟨c',ds,x,xs,by simp [h1],h2⟩
theorem NX {H:List (Nat×aW)} {ps:List uQ} {l:List TA} {ds:List cE} (h:D7 H ps l ⟨[],[]⟩=some (⟨[],[]⟩,ds)):∃ as,instL id ps ds=some (as,[])∧
  ∀ {w:World} {F:Nat→Prop} {μ:Nat→Nat} {K:Nat→Prop} {vs:List Value},hP w F μ K (dJ H l) vs→hP w F μ B_ (dJ [] as) vs:=by
 obtain ⟨_,_,hx⟩:=wg (H':=[]) (ρ:=id) h
 obtain ⟨as,h1,h2⟩:=hx []
 rw [List.append_nil] at h1
 refine ⟨as,h1,fun {w F μ K vs} hv=>h2 ⟨fun _ h=>h,?_,?_,?_⟩ hv⟩
 ·intro j b9 hj;cases hj
 ·intro j b9 hj;cases hj
 ·intro b9 hj;cases hj
def BE {α:Type} {ts:List Ty} (body:α→LQ ts (Option R)→LQ ts (Option R)) (done:LQ ts (Option R)):List α→LQ ts (Option R)
 | []=>done
 | y::r=>body y (BE body done r)
def bK.args (s:bK) (ps:List Nat) (ds:List cE):bK:={ s with tm:=((ps.zip (ds.map CH)).reverse)++s.tm }
mutual
def TA.stays:TA→Bool
 | .ow _=>false
 | .rp _ _ _=>false
 | .agg cs=>HC cs
 | .n9 cs=>HC cs
 | .nX _ a=>a.stays
 | .fn _ xs ys=>HC xs&&HC ys
 | _=>true
def HC:List TA→Bool
 | []=>true
 | a::r=>a.stays&&HC r
end
def bK.back (s s2:bK):bK:=⟨s.nt,s2.N,s.tm.map fun p=>(p.1,match p.2.stays with
 | true=>p.2
 | false=>.top),s2.H⟩
mutual
theorem Ji {H H':List (Nat×aW)} {N N':Nat}:∀ (a:TA),a.stays=true→a.av H'=a.av H∧(a.wf H N→a.wf H' N')
 | .ow _,h=>by cases h
 | .rp _ _ _,h=>by cases h
 | .agg cs,h=>by
  simp only [TA.stays] at h
  have k:=AG (H:=H) (H':=H') (N:=N) (N':=N') cs h
  exact ⟨by simp only [TA.av,k.1],fun hw=>by simp only [TA.wf] at hw ⊢;exact k.2 hw⟩
 | .n9 cs,h=>by
  simp only [TA.stays] at h
  have k:=AG (H:=H) (H':=H') (N:=N) (N':=N') cs h
  exact ⟨by simp only [TA.av,k.1],fun hw=>by simp only [TA.wf] at hw ⊢;exact k.2 hw⟩
 | .nX t a,h=>by
  simp only [TA.stays] at h
  have k:=Ji (H:=H) (H':=H') (N:=N) (N':=N') a h
  exact ⟨by simp only [TA.av,k.1],fun hw=>by simp only [TA.wf] at hw ⊢;exact k.2 hw⟩
 | .fn f xs ys,h=>by
  simp only [TA.stays,Bool.and_eq_true] at h
  have k1:=AG (H:=H) (H':=H') (N:=N) (N':=N') xs h.1
  have k2:=AG (H:=H) (H':=H') (N:=N) (N':=N') ys h.2
  exact ⟨by simp only [TA.av,k1.1,k2.1],fun hw=>by simp only [TA.wf] at hw ⊢;exact ⟨k1.2 hw.1,k2.2 hw.2⟩⟩
 | .top,_=>⟨by simp only [TA.av],fun _=>by simp only [TA.wf]⟩
 | .lit v,_=>⟨by simp only [TA.av],fun _=>by simp only [TA.wf]⟩
 | .d x,_=>⟨by simp only [TA.av],fun _=>by simp only [TA.wf]⟩
 | .eQ,_=>⟨by simp only [TA.av],fun _=>by simp only [TA.wf]⟩
 | .fp t x off,_=>⟨by simp only [TA.av],fun _=>by simp only [TA.wf]⟩
 | .bs id n e,_=>⟨by simp only [TA.av],fun _=>by simp only [TA.wf]⟩
 | .bp id off,_=>⟨by simp only [TA.av],fun _=>by simp only [TA.wf]⟩
 | .mp id,_=>⟨by simp only [TA.av],fun _=>by simp only [TA.wf]⟩
theorem AG {H H':List (Nat×aW)} {N N':Nat}:∀ (l:List TA),HC l=true→dJ H' l=dJ H l∧(gQ H N l→gQ H' N' l)
 | [],_=>⟨by simp only [dJ],fun _=>by simp only [gQ]⟩
 | a::r,h=>by
  simp only [HC,Bool.and_eq_true] at h
  have k1:=Ji (H:=H) (H':=H') (N:=N) (N':=N') a h.1
  have k2:=AG (H:=H) (H':=H') (N:=N) (N':=N') r h.2
  exact ⟨by simp only [dJ,k1.1,k2.1],fun hw=>by simp only [gQ] at hw ⊢;exact ⟨k1.2 hw.1,k2.2 hw.2⟩⟩
end
theorem KM (t:Nat):∀ (l:List (Nat×TA)),look (l.map fun p=>(p.1,match p.2.stays with
  | true=>p.2
  | false=>.top)) t=(match (look l t).stays with
  | true=>look l t
  | false=>.top)
 | []=>by simp [look,TA.stays]
 | p::r=>by
  simp only [List.map_cons,look]
  cases Nat.beq t p.1 with
  | true=>rfl
  | false=>exact KM t r
theorem abK {s s2:bK} {a a2:Act} (ho:s.ok) (Yk:s2.ok) (hs:SR w F O μ (below s.N) s.st ft a) (hs2:SR w' F' O' bB (below s2.N) s2.st b7 a2) (hf:∀ {x v},VR w F μ (below s.N) x v→VR w' F' bB (below s2.N) x v) (hd:uO w' F' O' a.defers):
  (s.back s2).ok∧SR w' F' O' bB (below (s.back s2).N) (s.back s2).st b7 a:=by
 refine ⟨⟨fun t=>?_,Yk.H⟩,⟨hs2.hr,hs.nt,fun t=>?_,hd⟩⟩
 ·show (look (s.back s2).tm t).wf s2.H s2.N
  simp only [bK.back]
  rw [KM]
  cases e:(look s.tm t).stays with
  | true=>exact (Ji (H:=s.H) (N:=s.N) _ e).2 (ho.tm t)
  | false=>simp only [TA.wf]
 ·show VR w' F' bB (below s2.N) ((look (s.back s2).tm t).av s2.H) _
  simp only [bK.back]
  rw [KM]
  cases e:(look s.tm t).stays with
  | true=>
   simp only
   rw [(Ji (H:=s.H) (H':=s2.H) (N:=s.N) (N':=s.N) _ e).1]
   exact hf (hs.tm t)
  | false=>simp only [TA.av];exact .top _
theorem Gd:∀ (ts:List Ty) (x:x4 ts),(eG ts x).length=ts.length
 | [],_=>rfl
 | _::ts,x=>by simp only [eG,List.length_cons,Gd ts x.2]
theorem abI (ps:List Nat) (vs:List Value) (a:Array Value):(((⟨ps⟩:Array Nat).zip ⟨vs⟩).foldl (fun tmps (t,v)=>tmps.setIfInBounds t v) a)=(ps.zip vs).foldl (fun tmps (t,v)=>tmps.setIfInBounds t v) a:=by
 rw [← Array.foldl_toList]
 simp
theorem NZ:∀ (l:List (Nat×Value)) (a:Array Value),(l.foldl (fun tmps (t,v)=>tmps.setIfInBounds t v) a).size=a.size
 | [],_=>rfl
 | p::r,a=>by simp only [List.foldl_cons];rw [NZ r];simp
theorem Wv {nt:Nat}:∀ {ps:List Nat} {ds:List cE} {vs:List Value} {tm:List (Nat×TA)} {H:List (Nat×aW)} {a:Array Value},hP w F μ K (ds.map cK) vs→a.size=nt→ps.all (fun t=>t.blt nt)=true→(∀ t,VR w F μ K ((look tm t).av H) (a.getD t undef))→
  ∀ t,VR w F μ K ((look ((ps.zip (ds.map CH)).reverse++tm) t).av H) (((ps.zip vs).foldl (fun tmps (t,v)=>tmps.setIfInBounds t v) a).getD t undef)
 | [],ds,vs,tm,H,a,_,_,_,h,t=>by simpa using h t
 | p::ps,[],vs,tm,H,a,hv,_,_,h,t=>by
  simp only [List.map_nil] at hv
  rw [hv.gY]
  simpa using h t
 | p::ps,y::ds,vs,tm,H,a,hv,fw,hp,h,t=>by
  simp only [List.map_cons] at hv
  obtain ⟨v,r,rfl,h1,h2⟩:=hv.cons_inv
  simp only [List.all_cons,Bool.and_eq_true] at hp
  have dL:p < nt:=Nat.le_of_ble_eq_true hp.1
  simp only [List.map_cons,List.zip_cons_cons,List.reverse_cons,List.append_assoc,List.cons_append,List.nil_append,List.foldl_cons]
  refine Wv (tm:=(p,CH y)::tm) h2 (by simpa using fw) hp.2 (fun u=>?_) t
  simp only [look]
  cases e:Nat.beq u p with
  | true=>
   have e:=Nat.eq_of_beq_eq_true e
   subst e
   simp only [L6]
   have:u < a.size:=by omega
   simpa [this] using h1
  | false=>
   have o8:p≠u:=fun h=>by subst h;simp at e
   have:=h u
   simp only [Array.getD_eq_getD_getElem?] at this ⊢
   rw [Array.getElem?_setIfInBounds_ne o8]
   exact this
theorem RF {H:List (Nat×aW)} {N:Nat} {ds:List cE} {tm:List (Nat×TA)} (h:∀ t,(look tm t).wf H N):∀ (ps:List Nat) t,(look ((ps.zip (ds.map CH)).reverse++tm) t).wf H N:=by
 have key:∀ (l:List (Nat×TA)),(∀ p,p∈l→p.2.wf H N)→∀ t,(look (l++tm) t).wf H N:=by
  intro l
  induction l with
  | nil=>intro _ t;exact h t
  | cons p r ih=>
   intro hl t
   simp only [List.cons_append,look]
   cases Nat.beq t p.1 with
   | true=>exact hl p (by simp)
   | false=>exact ih (fun q hq=>hl q (by simp [hq])) t
 intro ps t
 refine key _ (fun p hp=>?_) t
 have hp:=List.mem_reverse.1 hp
 have:=(List.of_mem_zip hp).2
 obtain ⟨y,_,e⟩:=List.mem_map.1 this
 rw [← e]
 exact Wd _ _ _
def KC (w:World) (F O:Nat→Prop) (b:Nat):Prop:=b < w.heap.size∧¬ F b∧¬ O b
theorem KC.step {b:Nat} (h:KC w F O b) (hf:Fr w F O μ K w' F' O' bB):KC w' F' O' b:=by
 obtain ⟨h1,h2,h3⟩:=h
 refine ⟨Nat.lt_of_lt_of_le h1 hf.size,fun h=>?_,fun h=>?_⟩
 ·rcases hf.Ha b h with h | h | h
  ·exact h2 h
  ·omega
  ·exact h3 h
 ·rcases hf.DP b h with h | h
  ·exact h3 h
  ·omega
theorem KC.same {b:Nat} (h:KC w F O b) (hf:Fr w F O μ K w' F' O' bB):w'.heap[b]?=w.heap[b]?:=hf.same b h.1 h.2.2
structure Ls (l:Nat) (w w':World):Prop where
 os:w'.os=w.os
 tape:w'.tape=w.tape
 output:w'.output=w.output
 size:w'.heap.size=w.heap.size
 same:∀ b,b≠l→w'.heap[b]?=w.heap[b]?
 shape:∀ b,w'.shape? b=w.shape? b
 nd:w.heap[l]?≠some (Obj.deferred (some []))
theorem EF {l:Nat} {r r':Loop} (h:w.heap[l]?=some (.loop r)):Ls l w (w.putObj l (.loop r'))∧(w.putObj l (.loop r')).heap[l]?=some (.loop r'):=by
 have dL:l < w.heap.size:=(Array.getElem?_eq_some_iff.1 h).1
 refine ⟨⟨rfl,rfl,rfl,by simp,fun b hb=>World.putObj_heap_other hb,fun b=>?_,by rw [h];simp⟩,World.putObj_heap_same dL⟩
 by_cases e:b=l
 ·subst e;simp only [World.shape?,h,World.putObj_heap_same dL]
 ·simp only [World.shape?,World.putObj_heap_other e]
theorem Ls.kp {l:Nat} (h:Ls l w w') (hF:¬ F l) (hO:¬ O l):Kp w w' F O where
 os:=h.os
 tape:=h.tape
 output:=h.output
 size:=Nat.le_of_eq h.size.symm
 LH:=fun b hb=>h.same b fun e=>by subst e;exact hb.elim hF hO
 shape:=fun b _=>h.shape b
theorem Ls.df {l:Nat} {ds:List Deferred} (h:Ls l w w') (hd:uO w F O ds):uO w' F O ds:=hd.same fun b hb=>h.same b fun e=>by subst e;exact h.nd hb
theorem Fr.zz {l:Nat} (h:Fr w F O μ K w' F' O' bB) (k:Ls l w' vP) (hl:w.heap.size≤l):Fr w F O μ K vP F' O' bB:=
 { h with os:=k.os.trans h.os,tape:=k.tape.trans h.tape,output:=k.output.trans h.output,size:=by rw [k.size];exact h.size,shape:=fun b hb=>(k.shape b).trans (h.shape b hb),same:=fun b hb hn=>(k.same b (by omega)).trans (h.same b hb hn) }
theorem KC.zz {l b:Nat} (h:KC w F O b) (k:Ls l w w'):KC w' F O b:=⟨by rw [k.size];exact h.1,h.2⟩
theorem x5.zz {l m0:Nat} {n0:Nat×Nat} {s':bK} {a':Act} (h:x5 w F O μ m0 n0 s' a' w' F' O' bB b7) (k:Ls l w' vP) (hl:w.heap.size≤l) (hF:¬ F' l) (hO:¬ O' l):x5 w F O μ m0 n0 s' a' vP F' O' bB b7:=
 ⟨h.ok,h.le,h.nt,⟨h.sr.hr.kp (k.kp hF hO),h.sr.nt,fun t=>(h.sr.tm t).kp h.sr.hr (k.kp hF hO),k.df h.sr.df⟩,h.fr.zz k hl⟩
def uR:Code→Bool
 | .seq x y=>uR x&&uR y
 | .cond _ x y=>uR x&&uR y
 | .block _ c=>uR c
 | .loop c=>uR c
 | .scope c=>uR c
 | .rangeFunc _ _ _ _=>false
 | _=>true
end Go.Proofs.YtljfmaaadnoggaaGreatDoor.cU
