/- Ranges over functions: what an iterator promises; a round. No condition. -/
import Derived.Test.YtjkbbdldmdajkaaGreatDoorWD
import Derived.RangeFuncRecord
namespace Go.Proofs.YtjkbbdldmdajkaaGreatDoor.c_
open Go Go.RowKit
variable {w w' xk:World} {F F' Bs O O' v8:Nat→Prop} {μ bC lG:Nat→Nat} {K K' EF:Nat→Prop} {ft bZ:Nat→Nat→Prop} {P:Program} {R:Type}
structure IT where
 f:FuncId
 AD:List vm
 eR:List Ty
 L:L8 (CE AD) (Option (List (zj eR)))
structure Wf3 (w:World) (F O:Nat→Prop):Prop where
 wf:∀ b,F b→b < w.heap.size
 rT:∀ b,O b→b < w.heap.size
 zc:∀ b,O b→¬ F b
theorem HR.wf3 {H:Hp} (h:HR w F O μ K H ft):Wf3 w F O:=⟨h.wf,h.rT,h.zc⟩
def YG {α:Type} (J:List α→World→(Nat→Prop)→(Nat→Prop)→Prop):Prop:=
 ∀ (z:List α) (w w':World) (F O F' O':Nat→Prop) (μ bC:Nat→Nat) (K:Nat→Prop),J z w F O→Wf3 w F O→Wf3 w' F' O'→Fr w F O μ K w' F' O' bC→J z w' F' O'
def OD (P:Program) (l:Nat) (eR:List Ty) (J:List (zj eR)→World→(Nat→Prop)→(Nat→Prop)→Prop):Prop:=
 ∀ (y:zj eR) (r:List (zj eR)) (w:World) (F O:Nat→Prop) (μ:Nat→Nat) (vs:List Value),J (y::r) w F O→Wf3 w F O→iL w F μ Dc ((fq eR y).map cR) vs→
  ∃ fn tmps as body,(Instr.yield l ⟨vs⟩).run P w=.ok (.round l fn tmps as body) w∧
   RoundIn (Wr none) 0 P l fn tmps as body w fun e w'=>∃ b,e=.returned (.bool b)∧Kp w w' F O∧J (cond b r []) w' F O
def JY (P:Program) (c:IT):Prop:=
 (∀ (xs:Array Value) (w:World),(callFunc c.f xs).run P w=.ok (.enter c.f xs) w)∧
 ∀ (x:zj (CE c.AD)) (xs:List (zj c.eR)),yJ _ c.L x=some xs→∀ (as:List TA),instL id c.AD (fq _ x)=some (as,[])→
  ∀ (w:World) (F:Nat→Prop) (μ:Nat→Nat) (us:List Value),iL w F μ Dc (dD [] as) us→(∀ b,F b→b < w.heap.size)→Pos w F→
  ∀ (l:Nat) (J:List (zj c.eR)→World→(Nat→Prop)→(Nat→Prop)→Prop),YG J→OD P l c.eR J→J xs w F (fun _=>False)→
   CallsIn (Wr none) 0 P c.f ⟨.func (.yield l) ⟨[]⟩ ⟨[]⟩::us⟩ w fun e w'=>∃ v F' O',e=.returned v∧J [] w' F' O'
def Sa (H:List (Nat×aY)) (fi:FuncId) (AD:List TA):List IT→((c:IT)→List (zj c.eR)→Option R)→Option R
 | [],_=>none
 | c::r,κ=>match Nat.beq c.f fi with
  | true=>match CF H c.AD AD ⟨[],[]⟩ with
   | some (⟨[],[]⟩,ds)=>match o8 (CE c.AD) ds with
    | some x=>(yJ _ c.L x).bind (κ c)
    | none=>none
   | _=>none
  | false=>Sa H fi AD r κ
theorem LC {H:List (Nat×aY)} {fi:FuncId} {AD:List TA} {z:R}:∀ {its:List IT} {κ:(c:IT)→List (zj c.eR)→Option R},Sa H fi AD its κ=some z→
  ∃ c ds x xs,c∈its∧c.f=fi∧CF H c.AD AD ⟨[],[]⟩=some (⟨[],[]⟩,ds)∧o8 (CE c.AD) ds=some x∧yJ _ c.L x=some xs∧κ c xs=some z
 | [],κ,h=>by cases h
 | c::r,κ,h=>by
  simp only [Sa] at h;split at h
  ·rename_i hf;split at h
   ·rename_i ds he;split at h
    ·rename_i x hx;cases hl:yJ _ c.L x with
     | none=>rw [hl] at h;cases h
     | some xs=>
      rw [hl] at h;exact ⟨c,ds,x,xs,by simp,Nat.eq_of_beq_eq_true hf,he,hx,hl,h⟩
    ·cases h
   ·cases h
  ·obtain ⟨c',ds,x,xs,h1,h2⟩:=LC h;exact ⟨c',ds,x,xs,by simp [h1],h2⟩
theorem OC {H:List (Nat×aY)} {ps:List vm} {l:List TA} {ds:List cN} (h:CF H ps l ⟨[],[]⟩=some (⟨[],[]⟩,ds)):∃ as,instL id ps ds=some (as,[])∧
  ∀ {w:World} {F:Nat→Prop} {μ:Nat→Nat} {K:Nat→Prop} {vs:List Value},iL w F μ K (dD H l) vs→iL w F μ Dc (dD [] as) vs:=by
 obtain ⟨_,_,hx⟩:=tj (H':=[]) (ρ:=id) h;obtain ⟨as,h1,h2⟩:=hx [];rw [List.append_nil] at h1;refine ⟨as,h1,fun {w F μ K vs} hv=>h2 ⟨fun _ h=>h,?_,?_,?_,?_⟩ hv⟩
 ·intro j b9 hj;cases hj
 ·intro j b9 hj;cases hj
 ·intro b9 hj;cases hj
 ·intro b9 hj;cases hj
def Ii {α:Type} {ts:List Ty} (body:α→L8 ts (Option R)→L8 ts (Option R)) (done:L8 ts (Option R)):List α→L8 ts (Option R)
 | []=>done
 | y::r=>body y (Ii body done r)
def bP.args (s:bP) (ps:List Nat) (ds:List cN):bP:={ s with tm:=((ps.zip (ds.map DJ)).reverse)++s.tm }
mutual
def TA.stays:TA→Bool
 | .ow _=>false
 | .rp _ _ _=>false
 | .agg cs=>E6 cs
 | .rb cs _=>E6 cs
 | .nP cs=>E6 cs
 | .pK _ a=>a.stays
 | .fn _ xs ys=>E6 xs&&E6 ys
 | _=>true
def E6:List TA→Bool
 | []=>true
 | a::r=>a.stays&&E6 r
end
def bP.back (s s2:bP):bP:=⟨s.nt,s2.N,s.tm.map fun p=>(p.1,match p.2.stays with
 | true=>p.2
 | false=>.top),s2.H⟩
mutual
theorem JE {H H':List (Nat×aY)} {N N':Nat}:∀ (a:TA),a.stays=true→a.av H'=a.av H∧(a.wf H N→a.wf H' N')
 | .ow _,h=>by cases h
 | .rp _ _ _,h=>by cases h
 | .agg cs,h=>by
  simp only [TA.stays] at h;have k:=xR (H:=H) (H':=H') (N:=N) (N':=N') cs h;exact ⟨by simp only [TA.av,k.1],fun hw=>by simp only [TA.wf] at hw ⊢;exact k.2 hw⟩
 | .rb cs off,h=>by
  simp only [TA.stays] at h;have k:=xR (H:=H) (H':=H') (N:=N) (N':=N') cs h;exact ⟨by simp only [TA.av,k.1],fun hw=>by simp only [TA.wf] at hw ⊢;exact k.2 hw⟩
 | .nP cs,h=>by
  simp only [TA.stays] at h;have k:=xR (H:=H) (H':=H') (N:=N) (N':=N') cs h;exact ⟨by simp only [TA.av,k.1],fun hw=>by simp only [TA.wf] at hw ⊢;exact k.2 hw⟩
 | .pK t a,h=>by
  simp only [TA.stays] at h;have k:=JE (H:=H) (H':=H') (N:=N) (N':=N') a h;exact ⟨by simp only [TA.av,k.1],fun hw=>by simp only [TA.wf] at hw ⊢;exact k.2 hw⟩
 | .fn f xs ys,h=>by
  simp only [TA.stays,Bool.and_eq_true] at h;have k1:=xR (H:=H) (H':=H') (N:=N) (N':=N') xs h.1;have k2:=xR (H:=H) (H':=H') (N:=N) (N':=N') ys h.2;exact ⟨by simp only [TA.av,k1.1,k2.1],fun hw=>by simp only [TA.wf] at hw ⊢;exact ⟨k1.2 hw.1,k2.2 hw.2⟩⟩
 | .top,_=>⟨by simp only [TA.av],fun _=>by simp only [TA.wf]⟩
 | .lit v,_=>⟨by simp only [TA.av],fun _=>by simp only [TA.wf]⟩
 | .d x,_=>⟨by simp only [TA.av],fun _=>by simp only [TA.wf]⟩
 | .fB,_=>⟨by simp only [TA.av],fun _=>by simp only [TA.wf]⟩
 | .fp t x off,_=>⟨by simp only [TA.av],fun _=>by simp only [TA.wf]⟩
 | .bs id n e,_=>⟨by simp only [TA.av],fun _=>by simp only [TA.wf]⟩
 | .bp id off,_=>⟨by simp only [TA.av],fun _=>by simp only [TA.wf]⟩
 | .mp id,_=>⟨by simp only [TA.av],fun _=>by simp only [TA.wf]⟩
theorem xR {H H':List (Nat×aY)} {N N':Nat}:∀ (l:List TA),E6 l=true→dD H' l=dD H l∧(im H N l→im H' N' l)
 | [],_=>⟨by simp only [dD],fun _=>by simp only [im]⟩
 | a::r,h=>by
  simp only [E6,Bool.and_eq_true] at h;have k1:=JE (H:=H) (H':=H') (N:=N) (N':=N') a h.1;have k2:=xR (H:=H) (H':=H') (N:=N) (N':=N') r h.2;exact ⟨by simp only [dD,k1.1,k2.1],fun hw=>by simp only [im] at hw ⊢;exact ⟨k1.2 hw.1,k2.2 hw.2⟩⟩
end
theorem K4 (t:Nat):∀ (l:List (Nat×TA)),look (l.map fun p=>(p.1,match p.2.stays with
  | true=>p.2
  | false=>.top)) t=(match (look l t).stays with
  | true=>look l t
  | false=>.top)
 | []=>by simp [look,TA.stays]
 | p::r=>by
  simp only [List.map_cons,look];cases Nat.beq t p.1 with
  | true=>rfl
  | false=>exact K4 t r
theorem acK {s s2:bP} {a a2:Act} (ho:s.ok) (Y0:s2.ok) (hs:SR w F O μ (below s.N) s.st ft a) (hs2:SR w' F' O' bC (below s2.N) s2.st bZ a2) (hf:∀ {x v},VR w F μ (below s.N) x v→VR w' F' bC (below s2.N) x v) (hd:wx w' F' O' a.defers):
  (s.back s2).ok∧SR w' F' O' bC (below (s.back s2).N) (s.back s2).st bZ a:=by
 refine ⟨⟨fun t=>?_,Y0.H⟩,⟨hs2.hr,hs.nt,fun t=>?_,hd⟩⟩
 ·show (look (s.back s2).tm t).wf s2.H s2.N;simp only [bP.back];rw [K4];cases e:(look s.tm t).stays with
  | true=>exact (JE (H:=s.H) (N:=s.N) _ e).2 (ho.tm t)
  | false=>simp only [TA.wf]
 ·show VR w' F' bC (below s2.N) ((look (s.back s2).tm t).av s2.H) _;simp only [bP.back];rw [K4];cases e:(look s.tm t).stays with
  | true=>
   simp only;rw [(JE (H:=s.H) (H':=s2.H) (N:=s.N) (N':=s.N) _ e).1];exact hf (hs.tm t)
  | false=>simp only [TA.av];exact .top _
theorem GS:∀ (ts:List Ty) (x:zj ts),(fq ts x).length=ts.length
 | [],_=>rfl
 | _::ts,x=>by simp only [fq,List.length_cons,GS ts x.2]
theorem acI (ps:List Nat) (vs:List Value) (a:Array Value):(((⟨ps⟩:Array Nat).zip ⟨vs⟩).foldl (fun tmps (t,v)=>tmps.setIfInBounds t v) a)=(ps.zip vs).foldl (fun tmps (t,v)=>tmps.setIfInBounds t v) a:=by
 rw [← Array.foldl_toList];simp
theorem OE:∀ (l:List (Nat×Value)) (a:Array Value),(l.foldl (fun tmps (t,v)=>tmps.setIfInBounds t v) a).size=a.size
 | [],_=>rfl
 | p::r,a=>by simp only [List.foldl_cons];rw [OE r];simp
theorem W6 {nt:Nat}:∀ {ps:List Nat} {ds:List cN} {vs:List Value} {tm:List (Nat×TA)} {H:List (Nat×aY)} {a:Array Value},iL w F μ K (ds.map cR) vs→a.size=nt→ps.all (fun t=>t.blt nt)=true→(∀ t,VR w F μ K ((look tm t).av H) (a.getD t undef))→
  ∀ t,VR w F μ K ((look ((ps.zip (ds.map DJ)).reverse++tm) t).av H) (((ps.zip vs).foldl (fun tmps (t,v)=>tmps.setIfInBounds t v) a).getD t undef)
 | [],ds,vs,tm,H,a,_,_,_,h,t=>by simpa using h t
 | p::ps,[],vs,tm,H,a,hv,_,_,h,t=>by
  simp only [List.map_nil] at hv;rw [hv.iK];simpa using h t
 | p::ps,y::ds,vs,tm,H,a,hv,fV,hp,h,t=>by
  simp only [List.map_cons] at hv;obtain ⟨v,r,rfl,h1,h2⟩:=hv.cons_inv;simp only [List.all_cons,Bool.and_eq_true] at hp;have dQ:p < nt:=Nat.le_of_ble_eq_true hp.1;simp only [List.map_cons,List.zip_cons_cons,List.reverse_cons,List.append_assoc,List.cons_append,List.nil_append,List.foldl_cons];refine W6 (tm:=(p,DJ y)::tm) h2 (by simpa using fV) hp.2 (fun u=>?_) t;simp only [look];cases e:Nat.beq u p with
  | true=>
   have e:=Nat.eq_of_beq_eq_true e;subst e;simp only [Mo];have:u < a.size:=by omega
   simpa [this] using h1
  | false=>
   have qL:p≠u:=fun h=>by subst h;simp at e
   have:=h u;simp only [Array.getD_eq_getD_getElem?] at this ⊢;rw [Array.getElem?_setIfInBounds_ne qL];exact this
theorem Sd {H:List (Nat×aY)} {N:Nat} {ds:List cN} {tm:List (Nat×TA)} (h:∀ t,(look tm t).wf H N):∀ (ps:List Nat) t,(look ((ps.zip (ds.map DJ)).reverse++tm) t).wf H N:=by
 have key:∀ (l:List (Nat×TA)),(∀ p,p∈l→p.2.wf H N)→∀ t,(look (l++tm) t).wf H N:=by
  intro l
  induction l with
  | nil=>intro _ t;exact h t
  | cons p r ih=>
   intro hl t;simp only [List.cons_append,look];cases Nat.beq t p.1 with
   | true=>exact hl p (by simp)
   | false=>exact ih (fun q hq=>hl q (by simp [hq])) t
 intro ps t;refine key _ (fun p hp=>?_) t;have hp:=List.mem_reverse.1 hp;have:=(List.of_mem_zip hp).2;obtain ⟨y,_,e⟩:=List.mem_map.1 this;rw [← e];exact WM _ _ _
def KS (w:World) (F O:Nat→Prop) (b:Nat):Prop:=b < w.heap.size∧¬ F b∧¬ O b
theorem KS.step {b:Nat} (h:KS w F O b) (hf:Fr w F O μ K w' F' O' bC):KS w' F' O' b:=by
 obtain ⟨h1,h2,h3⟩:=h;refine ⟨Nat.lt_of_lt_of_le h1 hf.size,fun h=>?_,fun h=>?_⟩
 ·rcases hf.HK b h with h | h | h
  ·exact h2 h
  ·omega
  ·exact h3 h
 ·rcases hf.EE b h with h | h
  ·exact h3 h
  ·omega
theorem KS.same {b:Nat} (h:KS w F O b) (hf:Fr w F O μ K w' F' O' bC):w'.heap[b]?=w.heap[b]?:=hf.same b h.1 h.2.2
structure LF (l:Nat) (w w':World):Prop where
 os:w'.os=w.os
 tape:w'.tape=w.tape
 output:w'.output=w.output
 size:w'.heap.size=w.heap.size
 same:∀ b,b≠l→w'.heap[b]?=w.heap[b]?
 shape:∀ b,w'.shape? b=w.shape? b
 nd:w.heap[l]?≠some (Obj.deferred (some []))
theorem Fy {l:Nat} {r r':Loop} (h:w.heap[l]?=some (.loop r)):LF l w (w.putObj l (.loop r'))∧(w.putObj l (.loop r')).heap[l]?=some (.loop r'):=by
 have dQ:l < w.heap.size:=(Array.getElem?_eq_some_iff.1 h).1;refine ⟨⟨rfl,rfl,rfl,by simp,fun b hb=>World.putObj_heap_other hb,fun b=>?_,by rw [h];simp⟩,World.putObj_heap_same dQ⟩;by_cases e:b=l
 ·subst e;simp only [World.shape?,h,World.putObj_heap_same dQ]
 ·simp only [World.shape?,World.putObj_heap_other e]
theorem LF.kp {l:Nat} (h:LF l w w') (hF:¬ F l) (hO:¬ O l):Kp w w' F O where
 os:=h.os
 tape:=h.tape
 output:=h.output
 size:=Nat.le_of_eq h.size.symm
 LX:=fun b hb=>h.same b fun e=>by subst e;exact hb.elim hF hO
 shape:=fun b _=>h.shape b
theorem LF.df {l:Nat} {ds:List Deferred} (h:LF l w w') (hd:wx w F O ds):wx w' F O ds:=hd.same fun b hb=>h.same b fun e=>by subst e;exact h.nd hb
theorem Fr.AB {l:Nat} (h:Fr w F O μ K w' F' O' bC) (k:LF l w' xk) (hl:w.heap.size≤l):Fr w F O μ K xk F' O' bC:=
 { h with os:=k.os.trans h.os,tape:=k.tape.trans h.tape,output:=k.output.trans h.output,size:=by rw [k.size];exact h.size,shape:=fun b hb=>(k.shape b).trans (h.shape b hb),same:=fun b hb hn=>(k.same b (by omega)).trans (h.same b hb hn) }
theorem KS.AB {l b:Nat} (h:KS w F O b) (k:LF l w w'):KS w' F O b:=⟨by rw [k.size];exact h.1,h.2⟩
theorem zl.AB {l m0:Nat} {n0:Nat×Nat} {s':bP} {a':Act} (h:zl w F O μ m0 n0 s' a' w' F' O' bC bZ) (k:LF l w' xk) (hl:w.heap.size≤l) (hF:¬ F' l) (hO:¬ O' l):zl w F O μ m0 n0 s' a' xk F' O' bC bZ:=
 ⟨h.ok,h.le,h.nt,⟨h.sr.hr.kp (k.kp hF hO),h.sr.nt,fun t=>(h.sr.tm t).kp h.sr.hr (k.kp hF hO),k.df h.sr.df⟩,h.fr.AB k hl⟩
def wA:Code→Bool
 | .seq x y=>wA x&&wA y
 | .cond _ x y=>wA x&&wA y
 | .block _ c=>wA c
 | .loop c=>wA c
 | .scope c=>wA c
 | .rangeFunc _ _ _ _=>false
 | _=>true
end Go.Proofs.YtjkbbdldmdajkaaGreatDoor.c_
