/- Ranges over functions: what an iterator promises; a round. No condition. -/
import Derived.Test.YtjkbbdldmdajkaaGreatDoorWD
import Derived.RangeFuncRecord
namespace Go.Proofs.YtjkbbdldmdajkaaGreatDoor.c5
open Go Go.RowKit
variable {w w' ss:World} {F F' zT O O' uo:Nat→Prop} {μ aZ jE:Nat→Nat} {K K' C9:Nat→Prop} {ft bX:Nat→Nat→Prop} {P:Program} {R:Type}
structure IT where
 f:FuncId
 zQ:List sA
 ey:List Ty
 L:LA (zN zQ) (Option (List (xP ey)))
structure Wf3 (w:World) (F O:Nat→Prop):Prop where
 wf:∀ b,F b→b < w.heap.size
 qS:∀ b,O b→b < w.heap.size
 yl:∀ b,O b→¬ F b
theorem HR.wf3 {H:Hp} (h:HR w F O μ K H ft):Wf3 w F O:=⟨h.wf,h.qS,h.yl⟩
def Yj {α:Type} (J:List α→World→(Nat→Prop)→(Nat→Prop)→Prop):Prop:=
 ∀ (z:List α) (w w':World) (F O F' O':Nat→Prop) (μ aZ:Nat→Nat) (K:Nat→Prop),J z w F O→Wf3 w F O→Wf3 w' F' O'→Fr w F O μ K w' F' O' aZ→J z w' F' O'
def N3 (P:Program) (l:Nat) (ey:List Ty) (J:List (xP ey)→World→(Nat→Prop)→(Nat→Prop)→Prop):Prop:=
 ∀ (y:xP ey) (r:List (xP ey)) (w:World) (F O:Nat→Prop) (μ:Nat→Nat) (vs:List Value),J (y::r) w F O→Wf3 w F O→gZ w F μ Cv ((ew ey y).map cL) vs→
  ∃ fn tmps as body,(Instr.yield l ⟨vs⟩).run P w=.ok (.round l fn tmps as body) w∧
   RoundIn (Wr none) 0 P l fn tmps as body w fun e w'=>∃ b,e=.returned (.bool b)∧Kp w w' F O∧J (cond b r []) w' F O
def Gu (P:Program) (c:IT):Prop:=
 (∀ (xs:Array Value) (w:World),(callFunc c.f xs).run P w=.ok (.enter c.f xs) w)∧
 ∀ (x:xP (zN c.zQ)) (xs:List (xP c.ey)),xQ _ c.L x=some xs→∀ (as:List TA),instL id c.zQ (ew _ x)=some (as,[])→
  ∀ (w:World) (F:Nat→Prop) (μ:Nat→Nat) (us:List Value),gZ w F μ Cv (di [] as) us→(∀ b,F b→b < w.heap.size)→Pos w F→
  ∀ (l:Nat) (J:List (xP c.ey)→World→(Nat→Prop)→(Nat→Prop)→Prop),Yj J→N3 P l c.ey J→J xs w F (fun _=>False)→
   CallsIn (Wr none) 0 P c.f ⟨.func (.yield l) ⟨[]⟩ ⟨[]⟩::us⟩ w fun e w'=>∃ v F' O',e=.returned v∧J [] w' F' O'
def Rz (H:List (Nat×aX)) (fi:FuncId) (zQ:List TA):List IT→((c:IT)→List (xP c.ey)→Option R)→Option R
 | [],_=>none
 | c::r,κ=>match Nat.beq c.f fi with
  | true=>match BY H c.zQ zQ ⟨[],[]⟩ with
   | some (⟨[],[]⟩,ds)=>match oj (zN c.zQ) ds with
    | some x=>(xQ _ c.L x).bind (κ c)
    | none=>none
   | _=>none
  | false=>Rz H fi zQ r κ
theorem K5 {H:List (Nat×aX)} {fi:FuncId} {zQ:List TA} {z:R}:∀ {its:List IT} {κ:(c:IT)→List (xP c.ey)→Option R},Rz H fi zQ its κ=some z→
  ∃ c ds x xs,c∈its∧c.f=fi∧BY H c.zQ zQ ⟨[],[]⟩=some (⟨[],[]⟩,ds)∧oj (zN c.zQ) ds=some x∧xQ _ c.L x=some xs∧κ c xs=some z
 | [],κ,h=>by cases h
 | c::r,κ,h=>by
  simp only [Rz] at h;split at h
  ·rename_i hf;split at h
   ·rename_i ds he;split at h
    ·rename_i x hx;cases hl:xQ _ c.L x with
     | none=>rw [hl] at h;cases h
     | some xs=>
      rw [hl] at h;exact ⟨c,ds,x,xs,by simp,Nat.eq_of_beq_eq_true hf,he,hx,hl,h⟩
    ·cases h
   ·cases h
  ·obtain ⟨c',ds,x,xs,h1,h2⟩:=K5 h;exact ⟨c',ds,x,xs,by simp [h1],h2⟩
theorem NZ {H:List (Nat×aX)} {ps:List sA} {l:List TA} {ds:List cG} (h:BY H ps l ⟨[],[]⟩=some (⟨[],[]⟩,ds)):∃ as,instL id ps ds=some (as,[])∧
  ∀ {w:World} {F:Nat→Prop} {μ:Nat→Nat} {K:Nat→Prop} {vs:List Value},gZ w F μ K (di H l) vs→gZ w F μ Cv (di [] as) vs:=by
 obtain ⟨_,_,hx⟩:=sm (H':=[]) (ρ:=id) h;obtain ⟨as,h1,h2⟩:=hx [];rw [List.append_nil] at h1;refine ⟨as,h1,fun {w F μ K vs} hv=>h2 ⟨fun _ h=>h,?_,?_,?_,?_⟩ hv⟩
 ·intro j b9 hj;cases hj
 ·intro j b9 hj;cases hj
 ·intro b9 hj;cases hj
 ·intro b9 hj;cases hj
def HD {α:Type} {ts:List Ty} (body:α→LA ts (Option R)→LA ts (Option R)) (done:LA ts (Option R)):List α→LA ts (Option R)
 | []=>done
 | y::r=>body y (HD body done r)
def bL.args (s:bL) (ps:List Nat) (ds:List cG):bL:={ s with tm:=((ps.zip (ds.map C4)).reverse)++s.tm }
mutual
def TA.stays:TA→Bool
 | .ow _=>false
 | .rp _ _ _=>false
 | .agg cs=>Ev cs
 | .rb cs _=>Ev cs
 | .ov cs=>Ev cs
 | .oR _ a=>a.stays
 | .fn _ xs ys=>Ev xs&&Ev ys
 | _=>true
def Ev:List TA→Bool
 | []=>true
 | a::r=>a.stays&&Ev r
end
def bL.back (s s2:bL):bL:=⟨s.nt,s2.N,s.tm.map fun p=>(p.1,match p.2.stays with
 | true=>p.2
 | false=>.top),s2.H⟩
mutual
theorem I7 {H H':List (Nat×aX)} {N N':Nat}:∀ (a:TA),a.stays=true→a.av H'=a.av H∧(a.wf H N→a.wf H' N')
 | .ow _,h=>by cases h
 | .rp _ _ _,h=>by cases h
 | .agg cs,h=>by
  simp only [TA.stays] at h;have k:=wV (H:=H) (H':=H') (N:=N) (N':=N') cs h;exact ⟨by simp only [TA.av,k.1],fun hw=>by simp only [TA.wf] at hw ⊢;exact k.2 hw⟩
 | .rb cs off,h=>by
  simp only [TA.stays] at h;have k:=wV (H:=H) (H':=H') (N:=N) (N':=N') cs h;exact ⟨by simp only [TA.av,k.1],fun hw=>by simp only [TA.wf] at hw ⊢;exact k.2 hw⟩
 | .ov cs,h=>by
  simp only [TA.stays] at h;have k:=wV (H:=H) (H':=H') (N:=N) (N':=N') cs h;exact ⟨by simp only [TA.av,k.1],fun hw=>by simp only [TA.wf] at hw ⊢;exact k.2 hw⟩
 | .oR t a,h=>by
  simp only [TA.stays] at h;have k:=I7 (H:=H) (H':=H') (N:=N) (N':=N') a h;exact ⟨by simp only [TA.av,k.1],fun hw=>by simp only [TA.wf] at hw ⊢;exact k.2 hw⟩
 | .fn f xs ys,h=>by
  simp only [TA.stays,Bool.and_eq_true] at h;have k1:=wV (H:=H) (H':=H') (N:=N) (N':=N') xs h.1;have k2:=wV (H:=H) (H':=H') (N:=N) (N':=N') ys h.2;exact ⟨by simp only [TA.av,k1.1,k2.1],fun hw=>by simp only [TA.wf] at hw ⊢;exact ⟨k1.2 hw.1,k2.2 hw.2⟩⟩
 | .top,_=>⟨by simp only [TA.av],fun _=>by simp only [TA.wf]⟩
 | .lit v,_=>⟨by simp only [TA.av],fun _=>by simp only [TA.wf]⟩
 | .d x,_=>⟨by simp only [TA.av],fun _=>by simp only [TA.wf]⟩
 | .fb,_=>⟨by simp only [TA.av],fun _=>by simp only [TA.wf]⟩
 | .fp t x off,_=>⟨by simp only [TA.av],fun _=>by simp only [TA.wf]⟩
 | .bs id n e,_=>⟨by simp only [TA.av],fun _=>by simp only [TA.wf]⟩
 | .bp id off,_=>⟨by simp only [TA.av],fun _=>by simp only [TA.wf]⟩
 | .mp id,_=>⟨by simp only [TA.av],fun _=>by simp only [TA.wf]⟩
theorem wV {H H':List (Nat×aX)} {N N':Nat}:∀ (l:List TA),Ev l=true→di H' l=di H l∧(hU H N l→hU H' N' l)
 | [],_=>⟨by simp only [di],fun _=>by simp only [hU]⟩
 | a::r,h=>by
  simp only [Ev,Bool.and_eq_true] at h;have k1:=I7 (H:=H) (H':=H') (N:=N) (N':=N') a h.1;have k2:=wV (H:=H) (H':=H') (N:=N) (N':=N') r h.2;exact ⟨by simp only [di,k1.1,k2.1],fun hw=>by simp only [hU] at hw ⊢;exact ⟨k1.2 hw.1,k2.2 hw.2⟩⟩
end
theorem Kt (t:Nat):∀ (l:List (Nat×TA)),look (l.map fun p=>(p.1,match p.2.stays with
  | true=>p.2
  | false=>.top)) t=(match (look l t).stays with
  | true=>look l t
  | false=>.top)
 | []=>by simp [look,TA.stays]
 | p::r=>by
  simp only [List.map_cons,look];cases Nat.beq t p.1 with
  | true=>rfl
  | false=>exact Kt t r
theorem ace {s s2:bL} {a a2:Act} (ho:s.ok) (YG:s2.ok) (hs:SR w F O μ (below s.N) s.st ft a) (hs2:SR w' F' O' aZ (below s2.N) s2.st bX a2) (hf:∀ {x v},VR w F μ (below s.N) x v→VR w' F' aZ (below s2.N) x v) (hd:qj w' F' O' (SI a.defers)):
  (s.back s2).ok∧SR w' F' O' aZ (below (s.back s2).N) (s.back s2).st bX a:=by
 refine ⟨⟨fun t=>?_,YG.H⟩,⟨hs2.hr,hs.nt,fun t=>?_,hd⟩⟩
 ·show (look (s.back s2).tm t).wf s2.H s2.N;simp only [bL.back];rw [Kt];cases e:(look s.tm t).stays with
  | true=>exact (I7 (H:=s.H) (N:=s.N) _ e).2 (ho.tm t)
  | false=>simp only [TA.wf]
 ·show VR w' F' aZ (below s2.N) ((look (s.back s2).tm t).av s2.H) _;simp only [bL.back];rw [Kt];cases e:(look s.tm t).stays with
  | true=>
   simp only;rw [(I7 (H:=s.H) (H':=s2.H) (N:=s.N) (N':=s.N) _ e).1];exact hf (hs.tm t)
  | false=>simp only [TA.av];exact .top _
theorem Gd:∀ (ts:List Ty) (x:xP ts),(ew ts x).length=ts.length
 | [],_=>rfl
 | _::ts,x=>by simp only [ew,List.length_cons,Gd ts x.2]
theorem acd (ps:List Nat) (vs:List Value) (a:Array Value):(((⟨ps⟩:Array Nat).zip ⟨vs⟩).foldl (fun tmps (t,v)=>tmps.setIfInBounds t v) a)=(ps.zip vs).foldl (fun tmps (t,v)=>tmps.setIfInBounds t v) a:=by
 rw [← Array.foldl_toList];simp
theorem N4:∀ (l:List (Nat×Value)) (a:Array Value),(l.foldl (fun tmps (t,v)=>tmps.setIfInBounds t v) a).size=a.size
 | [],_=>rfl
 | p::r,a=>by simp only [List.foldl_cons];rw [N4 r];simp
theorem WK {nt:Nat}:∀ {ps:List Nat} {ds:List cG} {vs:List Value} {tm:List (Nat×TA)} {H:List (Nat×aX)} {a:Array Value},gZ w F μ K (ds.map cL) vs→a.size=nt→ps.all (fun t=>t.blt nt)=true→(∀ t,VR w F μ K ((look tm t).av H) (a.getD t undef))→
  ∀ t,VR w F μ K ((look ((ps.zip (ds.map C4)).reverse++tm) t).av H) (((ps.zip vs).foldl (fun tmps (t,v)=>tmps.setIfInBounds t v) a).getD t undef)
 | [],ds,vs,tm,H,a,_,_,_,h,t=>by simpa using h t
 | p::ps,[],vs,tm,H,a,hv,_,_,h,t=>by
  simp only [List.map_nil] at hv;rw [hv.gY];simpa using h t
 | p::ps,y::ds,vs,tm,H,a,hv,fh,hp,h,t=>by
  simp only [List.map_cons] at hv;obtain ⟨v,r,rfl,h1,h2⟩:=hv.cons_inv;simp only [List.all_cons,Bool.and_eq_true] at hp;have dY:p < nt:=Nat.le_of_ble_eq_true hp.1;simp only [List.map_cons,List.zip_cons_cons,List.reverse_cons,List.append_assoc,List.cons_append,List.nil_append,List.foldl_cons];refine WK (tm:=(p,C4 y)::tm) h2 (by simpa using fh) hp.2 (fun u=>?_) t;simp only [look];cases e:Nat.beq u p with
  | true=>
   have e:=Nat.eq_of_beq_eq_true e;subst e;simp only [LV];have:u < a.size:=by omega
   simpa [this] using h1
  | false=>
   have oV:p≠u:=fun h=>by subst h;simp at e
   have:=h u;simp only [Array.getD_eq_getD_getElem?] at this ⊢;rw [Array.getElem?_setIfInBounds_ne oV];exact this
theorem RC {H:List (Nat×aX)} {N:Nat} {ds:List cG} {tm:List (Nat×TA)} (h:∀ t,(look tm t).wf H N):∀ (ps:List Nat) t,(look ((ps.zip (ds.map C4)).reverse++tm) t).wf H N:=by
 have key:∀ (l:List (Nat×TA)),(∀ p,p∈l→p.2.wf H N)→∀ t,(look (l++tm) t).wf H N:=by
  intro l
  induction l with
  | nil=>intro _ t;exact h t
  | cons p r ih=>
   intro hl t;simp only [List.cons_append,look];cases Nat.beq t p.1 with
   | true=>exact hl p (by simp)
   | false=>exact ih (fun q hq=>hl q (by simp [hq])) t
 intro ps t;refine key _ (fun p hp=>?_) t;have hp:=List.mem_reverse.1 hp;have:=(List.of_mem_zip hp).2;obtain ⟨y,_,e⟩:=List.mem_map.1 this;rw [← e];exact Wp _ _ _
def Kh (w:World) (F O:Nat→Prop) (b:Nat):Prop:=b < w.heap.size∧¬ F b∧¬ O b
theorem Kh.step {b:Nat} (h:Kh w F O b) (hf:Fr w F O μ K w' F' O' aZ):Kh w' F' O' b:=by
 obtain ⟨h1,h2,h3⟩:=h;refine ⟨Nat.lt_of_lt_of_le h1 hf.size,fun h=>?_,fun h=>?_⟩
 ·rcases hf.G6 b h with h | h | h
  ·exact h2 h
  ·omega
  ·exact h3 h
 ·rcases hf.D0 b h with h | h
  ·exact h3 h
  ·omega
theorem Kh.same {b:Nat} (h:Kh w F O b) (hf:Fr w F O μ K w' F' O' aZ):w'.heap[b]?=w.heap[b]?:=hf.same b h.1 h.2.2
structure K7 (l:Nat) (w w':World):Prop where
 os:w'.os=w.os
 tape:w'.tape=w.tape
 output:w'.output=w.output
 size:w'.heap.size=w.heap.size
 same:∀ b,b≠l→w'.heap[b]?=w.heap[b]?
 shape:∀ b,w'.shape? b=w.shape? b
 nd:w.heap[l]?≠some (Obj.deferred (some []))
theorem ET {l:Nat} {r r':Loop} (h:w.heap[l]?=some (.loop r)):K7 l w (w.putObj l (.loop r'))∧(w.putObj l (.loop r')).heap[l]?=some (.loop r'):=by
 have dY:l < w.heap.size:=(Array.getElem?_eq_some_iff.1 h).1;refine ⟨⟨rfl,rfl,rfl,by simp,fun b hb=>World.putObj_heap_other hb,fun b=>?_,by rw [h];simp⟩,World.putObj_heap_same dY⟩;by_cases e:b=l
 ·subst e;simp only [World.shape?,h,World.putObj_heap_same dY]
 ·simp only [World.shape?,World.putObj_heap_other e]
theorem K7.kp {l:Nat} (h:K7 l w w') (hF:¬ F l) (hO:¬ O l):Kp w w' F O where
 os:=h.os
 tape:=h.tape
 output:=h.output
 size:=Nat.le_of_eq h.size.symm
 Ln:=fun b hb=>h.same b fun e=>by subst e;exact hb.elim hF hO
 shape:=fun b _=>h.shape b
theorem K7.df {l:Nat} {ds:List Deferred} (h:K7 l w w') (hd:qj w F O ds):qj w' F O ds:=hd.same fun b hb=>h.same b fun e=>by subst e;exact h.nd hb
theorem Fr.zP {l:Nat} (h:Fr w F O μ K w' F' O' aZ) (k:K7 l w' ss) (hl:w.heap.size≤l):Fr w F O μ K ss F' O' aZ:=
 { h with os:=k.os.trans h.os,tape:=k.tape.trans h.tape,output:=k.output.trans h.output,size:=by rw [k.size];exact h.size,shape:=fun b hb=>(k.shape b).trans (h.shape b hb),same:=fun b hb hn=>(k.same b (by omega)).trans (h.same b hb hn) }
theorem Kh.zP {l b:Nat} (h:Kh w F O b) (k:K7 l w w'):Kh w' F O b:=⟨by rw [k.size];exact h.1,h.2⟩
theorem tL.zP {l m0:Nat} {n0:N0} {s':bL} {a':Act} (h:tL w F O μ m0 n0 s' a' w' F' O' aZ bX) (k:K7 l w' ss) (hl:w.heap.size≤l) (hF:¬ F' l) (hO:¬ O' l):tL w F O μ m0 n0 s' a' ss F' O' aZ bX:=
 ⟨h.ok,h.le,h.nt,⟨h.sr.hr.kp (k.kp hF hO),h.sr.nt,fun t=>(h.sr.tm t).kp h.sr.hr (k.kp hF hO),k.df h.sr.df⟩,h.fr.zP k hl⟩
def tP:Code→Bool
 | .seq x y=>tP x&&tP y
 | .cond _ x y=>tP x&&tP y
 | .block _ c=>tP c
 | .loop c=>tP c
 | .scope c=>tP c
 | .rangeFunc _ _ _ _=>false
 | _=>true
end Go.Proofs.YtjkbbdldmdajkaaGreatDoor.c5
