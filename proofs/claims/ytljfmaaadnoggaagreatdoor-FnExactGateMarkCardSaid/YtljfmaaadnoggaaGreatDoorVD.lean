/- Operations that only yield a value, the second part: addresses, loads, parts, lengths, slices. No condition. -/
import Derived.Test.YtljfmaaadnoggaaGreatDoorVC
namespace Go.Proofs.YtljfmaaadnoggaaGreatDoor.cU
open Go Go.RowKit
variable {w w' vP:World} {F F' Am O O' ux:Nat→Prop} {μ bB jV:Nat→Nat} {K K' DQ:Nat→Prop} {H H' H'':Hp} {ft b7:Nat→Nat→Prop} {P:Program}
theorem xN (b o n:Nat):(⟨b,o,none⟩:Addr).add n=⟨b,o+n,none⟩:=by
 unfold Addr.add
 split
 ·rename_i h;subst h;rfl
 ·rfl
theorem M5 {f:Field} {i:TypeInfo} (hi:P.info? f.type=some i) (hz:i.size≠0) (b o:Nat):
  (fieldPlace ⟨b,o,none⟩ f).run P w=.ok ⟨b,o+f.offset,none⟩ w:=by
 simp [fieldPlace,gy hi,hz,xN]
def IG (P:Program) (t:TypeId) (k:Nat):Option Field:=
 match P.underlying t with
 | some (.struct fs)=>fs[k]?
 | _=>none
def VS (P:Program) (t:TypeId) (k:Nat):Option Nat:=
 match IG P t k with
 | some f=>match P.info? f.type with
  | some i=>if i.size==0 then none else some f.offset
  | none=>none
 | none=>none
theorem SI {t:TypeId} {k off:Nat} (h:VS P t k=some off) (b o:Nat):(Instr.fieldAt t (.pointer (some ⟨b,o,none⟩)) k).run P w=.ok (.pointer (some ⟨b,o+off,none⟩)) w:=by
 unfold VS IG at h
 split at h
 ·rename_i f hf
  split at hf
  ·rename_i fs hu
   split at h
   ·rename_i i hi
    split at h
    ·cases h
    ·rename_i hz
     simp only [Option.some.injEq] at h
     subst h
     have hz':i.size≠0:=by simpa using hz
     simp [Instr.fieldAt,cl hu,hf,Instr.sureAddr,M5 hi hz']
   ·cases h
  ·cases hf
 ·cases h
def QX (a:AV) (off:Nat):Option AV:=
 match a with
 | .fp aZ e o=>some (.fp aZ e (o+off))
 | .bp id o=>some (.bp id (o+off))
 | .rp id aZ i j=>some (.rp id aZ i (j+off))
 | _=>none
theorem VT {a r:AV} {off:Nat} (h:QX a off=some r) {v:Value} (hv:VR w F μ K a v):
  ∃ b o,v=.pointer (some ⟨b,o,none⟩)∧VR w F μ K r (.pointer (some ⟨b,o+off,none⟩)):=by
 cases a<;>simp [QX] at h<;>subst h
 ·cases hv with
  | fp aZ e o b o' u hF hu hv=>
   refine ⟨b,o',rfl,.fp _ _ _ b _ (fun j=>u (off+j)) hF (fun j hj=>?_) (fun j hj=>?_)⟩
   ·have:=hu (off+j) (by omega);rw [← this];congr 2;omega
   ·have:=hv (off+j) (by omega);rwa [← Nat.add_assoc] at this
 ·cases hv with | bp id o bY=>exact ⟨_,_,rfl,.bp _ _ bY⟩
 ·cases hv with | rp id aZ i j bY=>exact ⟨_,_,rfl,by rw [Nat.add_assoc];exact .rp _ _ _ _ bY⟩
theorem QY {o:Oper} {s:fy} {x:Operand} {t:TypeId} {k off:Nat} {a r:AV} (ho:o.op=.fieldAddr t x k) (hx:dT s x a) (hf:VS P t k=some off) (hr:QX a off=some r):
  db P o s ⟨r,[],[]⟩:=
 bZ fun {w F O μ K ft act} hs=>by
  obtain ⟨b,o',hv,CL⟩:=VT hr (hx hs)
  exact ⟨_,by simp [execOp,ho,hv,SI hf],CL⟩
theorem SJ {o:Oper} {s:fy} {x:Operand} {a r:AV} (ho:o.op=.nilCheck x) (hx:dT s x a) (hr:QX a 0=some r):db P o s ⟨a,[],[]⟩:=
 bZ fun {w F O μ K ft act} hs=>by
  have h:=hx hs
  obtain ⟨b,o',hv,_⟩:=VT hr h
  exact ⟨_,by simp only [execOp,ho,hv];rfl,hv▸h⟩
theorem LI {o:Oper} {s:fy} {x y:Operand} {t et:TypeId} {ti:TypeInfo} {aZ n:Nat} {e:Nat→Nat→AV} {k:IntKind} {i:Int} (ho:o.op=.indexAddr t x y) (hx:dT s x (.fs aZ n e)) (hy:dT s y (.int k i))
  (ht:P.underlying t=some (.slice et)) (hi:P.info? et=some ti) (hs:ti.size=aZ) (h0:0≤i) (h1:i < n):db P o s ⟨.fp aZ (e i.toNat) 0,[],[]⟩:=
 bZ fun {w F O μ K ft a} g6=>by
  have h:=hx g6
  have h':=(hy g6).c_
  have dL:i.toNat < n:=by omega
  generalize hv:a.eval x=v at h
  cases h with
  | fs _ _ _ b o' cap u hF hc hu J_=>
   refine ⟨.pointer (some ⟨b,o'+i.toNat*aZ,none⟩),?_,.fp _ _ _ b _ (fun j=>u i.toNat j) hF (fun j hj=>?_) (fun j hj=>?_)⟩
   ·simp [execOp,ho,hv,h',Instr.indexAt,asIntOf,cl ht,h0,h1,gy hi,hs,xN]
   ·exact (hu i.toNat j dL (by omega)).1
   ·simpa using J_ i.toNat j dL (by omega)
  | uw=>omega
def dd (v:Bool) (id n aZ:Nat):AV:=match v with
 | true=>.vs id n aZ
 | false=>.ms id 0 n aZ
theorem SK {v:Bool} {id n aZ:Nat} {u:Value} (hv:VR w F μ K (dd v id n aZ) u) (hn:n≠0):∃ cap,u=.slice (some ⟨μ id,0,none⟩) n cap∧n≤cap∧K id:=by
 cases v with
 | false=>cases hv with | ms id i n aZ cap sz t bY hc hs fw=>exact ⟨cap,by simp,hc,bY⟩
 | true=>cases hv with
  | vs id n aZ cap sz t hn bY hc hs fw=>exact ⟨cap,rfl,hc,bY⟩
  | vO=>exact absurd rfl hn
theorem An {o:Oper} {s:fy} {x y:Operand} {t et:TypeId} {ti:TypeInfo} {v:Bool} {id aZ n:Nat} {k:IntKind} {i:Int} (ho:o.op=.indexAddr t x y) (hx:dT s x (dd v id n aZ)) (hy:dT s y (.int k i))
  (ht:P.underlying t=some (.slice et)) (hi:P.info? et=some ti) (hs:ti.size=aZ) (h0:0≤i) (h1:i < n):db P o s ⟨.rp id aZ i.toNat 0,[],[]⟩:=
 bZ fun {w F O μ K ft a} g6=>by
  have h':=(hy g6).c_
  obtain ⟨cap,hv,_,bY⟩:=SK (hx g6) (by omega)
  refine ⟨.pointer (some ⟨μ id,i.toNat*aZ,none⟩),?_,.rp id aZ i.toNat 0 bY⟩
  simp [execOp,ho,hv,h',Instr.indexAt,asIntOf,cl ht,h0,h1,gy hi,hs,xN]
theorem DS {t:TypeId} {d:TypeDesc} {i:TypeInfo} (ht:P.underlying t=some d) (hi:P.info? t=some i) (ha:IF d=true) (b o:Nat) (u:Nat→Value)
  (hu:∀ j,j < i.size→w.cell? ⟨b,o+j,none⟩=some (u j)):(Instr.loadAt t (.pointer (some ⟨b,o,none⟩))).run P w=.ok (.agg ⟨(List.range i.size).map u⟩) w:=by
 simp only [Instr.loadAt,Instr.sureAddr,Sem.run_bind,Sem.run_pure,Result.andThen_ok,loadVar,LX ht,ha,if_true,gy hi]
 rw [run_loadCells w _ _ u fun j hj=>by rw [xN];exact hu j hj]
 rfl
theorem DT {t:TypeId} {d:TypeDesc} (ht:P.underlying t=some d) (ha:IF d=false) (b o:Nat) (u:Value)
  (hu:w.cell? ⟨b,o,none⟩=some u):(Instr.loadAt t (.pointer (some ⟨b,o,none⟩))).run P w=.ok u w:=by
 simp only [Instr.loadAt,Instr.sureAddr,Sem.run_bind,Sem.run_pure,Result.andThen_ok,loadVar,LX ht,ha,Bool.false_eq_true,if_false]
 simp [hu]
def AV.Kc:AV→Bool
 | .os _ _ _=>true
 | _=>false
theorem iW.closed {S:Nat→Prop} {a:AV} {v:Value} (h:iW w F μ S a v) (ha:a.Kc=false):VR w F μ B_ a v∧∀ x,¬ S x:=by
 cases h with
 | Iy S a v h hS=>exact ⟨h,hS⟩
 | Al=>cases ha
 | os=>cases ha
def IH (w:World) (F:Nat→Prop) (μ:Nat→Nat) (K:Nat→Prop) (n:Nat) (c:Nat→AV) (v:Value):Prop:=
 ∃ (b o:Nat) (u:Nat→Value),v=.pointer (some ⟨b,o,none⟩)∧∀ j,j < n→w.cell? ⟨b,o+j,none⟩=some (u j)∧VR w F μ K (c j) (u j)
def Rdb (s:fy) (x:Operand) (n:Nat) (c:Nat→AV):Prop:=∀ {w F O μ K ft act},SR w F O μ K s ft act→IH w F μ K n c (act.eval x)
theorem ac_ {s:fy} {x:Operand} {n aZ off:Nat} {e:Nat→AV} (hx:dT s x (.fp aZ e off)) (hle:off+n≤aZ):Rdb s x n fun j=>e (off+j):=fun {w F O μ K ft act} hs=>by
 have h:=hx hs
 generalize act.eval x=v at h
 cases h with
 | fp _ _ _ b o u hF hu hv=>exact ⟨b,o,u,rfl,fun j hj=>⟨hu j (by omega),(hv j (by omega)).up⟩⟩
theorem ada {s:fy} {x:Operand} {n id off:Nat} {l:List AV} (hx:dT s x (.bp id off)) (hb:s.H id=some (.box l)) (hle:off+n≤l.length):Rdb s x n fun j=>l.getD (off+j) .top:=fun {w F O μ K ft act} hs=>by
 have h:=hx hs
 obtain ⟨ob,rQ,cs,t,rfl,_,fw,hB⟩:=hs.hr.di id _ hb rfl
 generalize act.eval x=v at h
 cases h with
 | bp _ _ bY=>
  refine ⟨_,_,fun j=>cs.getD (off+j) undef,rfl,fun j hj=>⟨?_,hB (off+j) (by omega)⟩⟩
  have dL:off+j < cs.size:=Nat.lt_of_lt_of_le (by omega) fw
  simp [World.cell?,rQ,dL]
theorem adb {s:fy} {x:Operand} {n id aZ i j m:Nat} {v:Bool} {e:Nat→Nat→AV} (hx:dT s x (.rp id aZ i j)) (hb:s.H id=some (.row v aZ m e)) (hi:i < m) (hle:j+n≤aZ)
  (hc:∀ k,k < n→(e i (j+k)).Kc=false):Rdb s x n fun k=>e i (j+k):=fun {w F O μ K ft act} hs=>by
 have h:=hx hs
 have hl:(ju.row v aZ m e).eI=true:=by cases v<;>simp [ju.eI];omega
 obtain ⟨ob,rQ,cs,t,S',rfl,hB⟩:=hs.hr.di id _ hb hl
 generalize act.eval x=u at h
 cases h with
 | rp _ _ _ _ bY=>
  refine ⟨_,_,fun k=>cs.getD (i*aZ+j+k) undef,rfl,fun k hk=>?_⟩
  have h2:(i+1)*aZ≤m*aZ:=Nat.mul_le_mul_right _ hi
  rw [Nat.add_mul,Nat.one_mul] at h2
  have fw:=hB.size
  have dL:i*aZ+j+k < cs.size:=by omega
  refine ⟨by simp [World.cell?,rQ,dL],?_⟩
  have:=(hB.cell i (j+k) hi (by omega)).1.closed (hc k hk)
  rw [← Nat.add_assoc] at this
  exact this.1.up
theorem zu {n:Nat} {c:Nat→AV} {u:Nat→Value} (h:∀ j,j < n→VR w F μ K (c j) (u j)):hP w F μ K ((List.range n).map c) ((List.range n).map u):=
 ⟨by simp,fun i hi=>by
  simp only [List.length_map,List.length_range] at hi
  simpa [List.getD,hi] using h i hi⟩
theorem SL {o:Oper} {s:fy} {x:Operand} {t:TypeId} {d:TypeDesc} {i:TypeInfo} {c:Nat→AV} (ho:o.op=.load t x) (ht:P.underlying t=some d) (hi:P.info? t=some i) (ha:IF d=true)
  (hc:Rdb s x i.size c):db P o s ⟨.agg ((List.range i.size).map c),[],[]⟩:=
 bZ fun {w F O μ K ft act} g6=>by
  obtain ⟨b,o',u,hv,hu⟩:=hc g6
  exact ⟨_,by simp only [execOp,ho,hv,Sem.run_bind,DS ht hi ha b o' u (fun j hj=>(hu j hj).1),Result.andThen_ok,Sem.run_pure],.pY (zu fun j hj=>(hu j hj).2)⟩
theorem SM {o:Oper} {s:fy} {x:Operand} {t:TypeId} {d:TypeDesc} {c:Nat→AV} (ho:o.op=.load t x) (ht:P.underlying t=some d) (ha:IF d=false)
  (hc:Rdb s x 1 c):db P o s ⟨c 0,[],[]⟩:=
 bZ fun {w F O μ K ft act} g6=>by
  obtain ⟨b,o',u,hv,hu⟩:=hc g6
  exact ⟨_,by simp only [execOp,ho,hv,Sem.run_bind,DT ht ha b o' (u 0) (hu 0 (by omega)).1,Result.andThen_ok,Sem.run_pure],(hu 0 (by omega)).2⟩
theorem hP.take_drop {l:List AV} {vs:List Value} (h:hP w F μ K l vs) (o n:Nat):hP w F μ K ((l.drop o).take n) ((vs.drop o).take n):=
 ⟨by simp [h.1],fun i hi=>by
  simp only [List.length_take,List.length_drop] at hi
  have:=h.2 (o+i) (by omega)
  have h2:o+i < l.length:=by omega
  have h3:o+i < vs.length:=h.1▸h2
  have h4:i < n:=by omega
  simpa [List.getD,List.getElem?_take,List.getElem?_drop,h4,h2,h3] using this⟩
def DU (P:Program) (t:TypeId) (cs:List AV) (off:Nat):Option AV:=
 match P.underlying t,P.info? t with
 | some d,some i=>if IF d then some (.agg ((cs.drop off).take i.size)) else if off.blt cs.length then some (cs.getD off .top) else none
 | _,_=>none
theorem M6 {t:TypeId} {cs:List AV} {vs:List Value} {off:Nat} {r:AV} (h:DU P t cs off=some r) (hv:hP w F μ K cs vs):∃ v,(part t ⟨vs⟩ off).run P w=.ok v w∧VR w F μ K r v:=by
 unfold DU at h
 split at h
 ·rename_i d i hd hi
  split at h
  ·rename_i ha
   cases h
   refine ⟨.agg ⟨(vs.drop off).take i.size⟩,?_,.pY (hv.take_drop off i.size)⟩
   simp only [part,Sem.run_bind,LX hd,ha,if_true,gy hi,Result.andThen_ok,Sem.run_pure]
   congr 2
   simp [List.extract_eq_take_drop]
  ·rename_i ha
   split at h
   ·rename_i dL
    cases h
    have dL:off < cs.length:=Nat.le_of_ble_eq_true (by simpa [Nat.blt] using dL)
    have Zm:off < vs.length:=hv.1▸dL
    refine ⟨vs.getD off undef,?_,hv.2 off dL⟩
    simp only [part,Sem.run_bind,LX hd,Result.andThen_ok,if_neg ha]
    simp [Zm,List.getD]
   ·cases h
 ·cases h
theorem SN {o:Oper} {s:fy} {x:Operand} {t:TypeId} {k:Nat} {f:Field} {cs:List AV} {r:AV} (ho:o.op=.field t x k) (hx:dT s x (.agg cs)) (hf:IG P t k=some f) (hr:DU P f.type cs f.offset=some r):
  db P o s ⟨r,[],[]⟩:=
 bZ fun {w F O μ K ft act} g6=>by
  obtain ⟨vs,hv,AM⟩:=(hx g6).fh
  obtain ⟨v,hp,CL⟩:=M6 hr AM
  unfold IG at hf
  split at hf
  ·rename_i fs hu
   exact ⟨v,by simp [execOp,ho,hv,Instr.field,cl hu,hf,asAgg,hp],CL⟩
  ·cases hf
def Hd:TypeDesc→Bool
 | .slice _=>true
 | _=>false
def QZ:TypeDesc→Bool
 | .string=>true
 | _=>false
def ade:AV→Option Nat
 | .fs _ n _=>some n
 | .ms _ _ n _=>some n
 | .vs _ n _=>some n
 | .eQ=>some 0
 | _=>none
theorem aaT {a:AV} {n:Nat} (h:ade a=some n) {v:Value} (hv:VR w F μ K a v):∃ A cap,v=.slice A n cap:=by
 cases a<;>simp [ade] at h<;>subst h<;>cases hv<;>exact ⟨_,_,rfl⟩
theorem UH {o:Oper} {s:fy} {x:Operand} {t:TypeId} {d:TypeDesc} {m:List UInt8} (ho:o.op=.call ⟨.builtin .len,#[x],#[t]⟩) (hx:dT s x (.str m)) (ht:P.underlying t=some d)
  (hd:QZ d=true):db P o s ⟨.int .i64 (m.length:Int),[],[]⟩:=
 bZ fun {w F O μ K ft act} g6=>by
  refine ⟨.int .i64 (m.length:Int),?_,.int _ _⟩
  have h:=(hx g6).iM
  cases d<;>simp [QZ] at hd
  simp [execOp,ho,resolve,invoke,builtin,Builtin.len_,cl ht,h,goInt]
  rfl
theorem M7 {o:Oper} {s:fy} {x:Operand} {t:TypeId} {d:TypeDesc} {a:AV} {n:Nat} (ho:o.op=.call ⟨.builtin .len,#[x],#[t]⟩) (hx:dT s x a) (ha:ade a=some n) (ht:P.underlying t=some d)
  (hd:Hd d=true):db P o s ⟨.int .i64 (n:Int),[],[]⟩:=
 bZ fun {w F O μ K ft act} g6=>by
  refine ⟨.int .i64 (n:Int),?_,.int _ _⟩
  obtain ⟨A,cap,h⟩:=aaT ha (hx g6)
  cases d<;>simp [Hd] at hd
  simp [execOp,ho,resolve,invoke,builtin,Builtin.len_,cl ht,h,goInt]
def Bnd (s:fy) (d:Int) (x:Option Operand) (i:Int):Prop:=(x=none∧i=d)∨∃ y k,x=some y∧dT s y (.int k i)
theorem Ev {x:Value} {k:IntKind} {i:Int} {y:Nat} {c:BoundsCode} (hx:x=.int k i) (h0:0≤i) (h1:i≤y):(Instr.sliceBound x y c).run P w=.ok i.toNat w:=by
 subst hx
 simp only [Instr.sliceBound,asIntOf,Sem.run_bind,Sem.run_pure,Result.andThen_ok,if_pos (And.intro h0 h1)]
theorem He {s:fy} {a:Act} (hs:SR w F O μ K s ft a) {lo hi:Option Operand} {l h:Int} {LJ:Bool} {n cap:Nat} (hl:Bnd s 0 lo l) (hh:Bnd s n hi h)
  (h0:0≤l) (h1:l≤h) (h2:h≤n) (h3:n≤cap):(Instr.sliceBounds LJ n cap (lo.map a.eval) (hi.map a.eval) none).run P w=.ok (l.toNat,h.toNat,cap) w:=by
 have hc:h≤(cap:Int):=by omega
 have hlh:l≤(h.toNat:Int):=by omega
 rcases hh with ⟨rfl,rfl⟩ | ⟨y,k,rfl,hy⟩
 ·rcases hl with ⟨rfl,rfl⟩ | ⟨z,k',rfl,hz⟩
  ·simp [Instr.sliceBounds]
  ·simp [Instr.sliceBounds,Ev (hz hs).c_ h0 h1]
 ·rcases hl with ⟨rfl,rfl⟩ | ⟨z,k',rfl,hz⟩
  ·simp [Instr.sliceBounds,Ev (hy hs).c_ (Int.le_trans h0 h1) hc]
  ·simp [Instr.sliceBounds,Ev (hy hs).c_ (Int.le_trans h0 h1) hc,Ev (hz hs).c_ h0 hlh]
def OM {α:Type} (m:List α) (l h:Int):List α:=(m.take h.toNat).drop l.toNat
theorem ON (m:List UInt8) (l h:Nat):(⟨⟨m⟩⟩:ByteArray).extract l h=⟨⟨(m.take h).drop l⟩⟩:=by
 apply ByteArray.ext
 rw [ByteArray.data_extract]
 apply Array.ext'
 simp [List.extract,List.drop_take]
theorem LK {t:TypeId} {x:Value} {lo hi mx:Option Value} (ht:P.underlying t=some .string):(Instr.sliceAt t x lo hi mx).run P w=(Instr.slice t x lo hi mx).run P w:=by
 simp only [Instr.sliceAt,Sem.run_bind,cl ht,Result.andThen_ok]
theorem DV {t et:TypeId} {x:Value} {lo hi mx:Option Value} (ht:P.underlying t=some (.slice et)):(Instr.sliceAt t x lo hi mx).run P w=(Instr.slice t x lo hi mx).run P w:=by
 simp only [Instr.sliceAt,Sem.run_bind,cl ht,Result.andThen_ok]
theorem SO {o:Oper} {s:fy} {x:Operand} {t:TypeId} {lo hi:Option Operand} {m:List UInt8} {l h:Int} (ho:o.op=.slice t x lo hi none) (hx:dT s x (.str m)) (ht:P.underlying t=some .string)
  (hl:Bnd s 0 lo l) (hh:Bnd s m.length hi h) (h0:0≤l) (h1:l≤h) (h2:h≤m.length):db P o s ⟨.str (OM m l h),[],[]⟩:=
 bZ fun {w F O μ K ft a} hs=>by
  refine ⟨.string ⟨⟨OM m l h⟩⟩,?_,.str _⟩
  have hb:=He (P:=P) (LJ:=false) hs hl hh h0 h1 h2 (Nat.le_refl _)
  have fw:(⟨⟨m⟩⟩:ByteArray).size=m.length:=rfl
  simp only [execOp,ho,Option.map_none,Sem.run_bind,LK ht,(hx hs).iM,Instr.slice,cl ht,Result.andThen_ok,fw,Option.isSome_none,Bool.false_eq_true,if_false,Sem.run_pure]
  rw [hb]
  simp only [Result.andThen_ok,ON,OM]
theorem UI {o:Oper} {s:fy} {x:Operand} {t et:TypeId} {ti:TypeInfo} {lo hi:Option Operand} {aZ n:Nat} {e:Nat→Nat→AV} {l h:Int} (ho:o.op=.slice t x lo hi none) (hx:dT s x (.fs aZ n e))
  (ht:P.underlying t=some (.slice et)) (c8:P.info? et=some ti) (fw:ti.size=aZ)
  (hl:Bnd s 0 lo l) (hh:Bnd s n hi h) (h0:0≤l) (h1:l≤h) (h2:h≤n):db P o s ⟨.fs aZ (h.toNat-l.toNat) (fun i j=>e (l.toNat+i) j),[],[]⟩:=
 bZ fun {w F O μ K ft a} hs=>by
  have hv:=hx hs
  generalize J_:a.eval x=v at hv
  cases hv with
  | fs _ _ _ b o' cap u hF hc hu hv=>
   have hb:=He (P:=P) (LJ:=true) hs hl hh h0 h1 h2 hc
   refine ⟨.slice (if cap=l.toNat then some ⟨b,o',none⟩ else (some ⟨b,o',none⟩:Option Addr).map (·.add (l.toNat*ti.size))) (h.toNat-l.toNat) (cap-l.toNat),?_,?_⟩
   ·simp only [execOp,ho,Option.map_none,Sem.run_bind,DV ht,J_,Instr.slice,cl ht,Result.andThen_ok]
    rw [hb]
    simp only [Result.andThen_ok,gy c8,Sem.run_pure]
   ·split
    ·rename_i he
     exact .fs _ _ _ b o' _ (fun i j=>u i j) hF (by omega) (fun i j hi=>by omega) (fun i j hi=>by omega)
    ·simp only [Option.map_some,xN]
     refine .fs _ _ _ b _ _ (fun i j=>u (l.toNat+i) j) hF (by omega) (fun i j hi hj=>?_) (fun i j hi hj=>hv _ _ (by omega) hj)
     have:=hu (l.toNat+i) j (by omega) hj
     rw [fw]
     rw [Nat.add_mul,← Nat.add_assoc] at this
     exact this
  | uw _ _ ad cap=>
   have hb:=He (P:=P) (LJ:=true) (cap:=cap) hs hl hh h0 h1 h2 (Nat.zero_le _)
   have hl0:l.toNat=0:=by omega
   have hh0:h.toNat=0:=by omega
   refine ⟨.slice (if cap=l.toNat then ad else ad.map (·.add (l.toNat*ti.size))) (h.toNat-l.toNat) (cap-l.toNat),?_,?_⟩
   ·simp only [execOp,ho,Option.map_none,Sem.run_bind,DV ht,J_,Instr.slice,cl ht,Result.andThen_ok]
    rw [hb]
    simp only [Result.andThen_ok,gy c8,Sem.run_pure]
   ·rw [hl0,hh0];exact .uw _ _ _ _
end Go.Proofs.YtljfmaaadnoggaaGreatDoor.cU
