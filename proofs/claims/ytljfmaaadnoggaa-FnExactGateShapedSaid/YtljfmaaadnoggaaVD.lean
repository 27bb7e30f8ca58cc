/- Operations that only yield a value, the second part: addresses, loads, parts, lengths, slices. No condition. -/
import Derived.Test.YtljfmaaadnoggaaVC
namespace Go.Proofs.Ytljfmaaadnoggaa.Abs
open Go Go.RowKit
variable {w w' w'':World} {F F' F'' O O' O'':Nat→Prop} {μ μ' μ'':Nat→Nat} {K K' K'':Nat→Prop} {H H' H'':Hp} {ft ft':Nat→Nat→Prop} {P:Program}
theorem add_mk (b o n:Nat):(⟨b,o,none⟩:Addr).add n=⟨b,o+n,none⟩:=by
 unfold Addr.add
 split
 ·rename_i h;subst h;rfl
 ·rfl
theorem run_fieldPlace {f:Field} {i:TypeInfo} (hi:P.info? f.type=some i) (hz:i.size≠0) (b o:Nat):
  (fieldPlace ⟨b,o,none⟩ f).run P w=.ok ⟨b,o+f.offset,none⟩ w:=by
 simp [fieldPlace,run_siz hi,hz,add_mk]
def fieldOf (P:Program) (t:TypeId) (k:Nat):Option Field:=
 match P.underlying t with
 | some (.struct fs)=>fs[k]?
 | _=>none
def offOf (P:Program) (t:TypeId) (k:Nat):Option Nat:=
 match fieldOf P t k with
 | some f=>match P.info? f.type with
  | some i=>if i.size==0 then none else some f.offset
  | none=>none
 | none=>none
theorem run_fieldAt {t:TypeId} {k off:Nat} (h:offOf P t k=some off) (b o:Nat):(Instr.fieldAt t (.pointer (some ⟨b,o,none⟩)) k).run P w=.ok (.pointer (some ⟨b,o+off,none⟩)) w:=by
 unfold offOf fieldOf at h
 split at h
 ·rename_i f hf
  split at hf
  ·rename_i fs hu
   split at h
   ·rename_i i hi
    split at h
    ·cases h
    ·rename_i hz
     simp only [Option.some.injEq] at h
     subst h
     have hz':i.size≠0:=by simpa using hz
     simp [Instr.fieldAt,run_und hu,hf,Instr.sureAddr,run_fieldPlace hi hz']
   ·cases h
  ·cases hf
 ·cases h
def addA (a:AV) (off:Nat):Option AV:=
 match a with
 | .fp esz e o=>some (.fp esz e (o+off))
 | .bp id o=>some (.bp id (o+off))
 | .rp id esz i j=>some (.rp id esz i (j+off))
 | _=>none
theorem addA_ok {a r:AV} {off:Nat} (h:addA a off=some r) {v:Value} (hv:VR w F μ K a v):
  ∃ b o,v=.pointer (some ⟨b,o,none⟩)∧VR w F μ K r (.pointer (some ⟨b,o+off,none⟩)):=by
 cases a<;>simp [addA] at h<;>subst h
 ·cases hv with
  | fp esz e o b o' u hF hu hv=>
   refine ⟨b,o',rfl,.fp _ _ _ b _ (fun j=>u (off+j)) hF (fun j hj=>?_) (fun j hj=>?_)⟩
   ·have:=hu (off+j) (by omega);rw [← this];congr 2;omega
   ·have:=hv (off+j) (by omega);rwa [← Nat.add_assoc] at this
 ·cases hv with | bp id o hid=>exact ⟨_,_,rfl,.bp _ _ hid⟩
 ·cases hv with | rp id esz i j hid=>exact ⟨_,_,rfl,by rw [Nat.add_assoc];exact .rp _ _ _ _ hid⟩
theorem op_fieldAddr {o:Oper} {s:SSt} {x:Operand} {t:TypeId} {k off:Nat} {a r:AV} (ho:o.op=.fieldAddr t x k) (hx:Opd s x a) (hf:offOf P t k=some off) (hr:addA a off=some r):
  OpOk P o s ⟨r,[],[]⟩:=
 opok_value fun {w F O μ K ft act} hs=>by
  obtain ⟨b,o',hv,hr'⟩:=addA_ok hr (hx hs)
  exact ⟨_,by simp [execOp,ho,hv,run_fieldAt hf],hr'⟩
theorem op_nilCheck {o:Oper} {s:SSt} {x:Operand} {a r:AV} (ho:o.op=.nilCheck x) (hx:Opd s x a) (hr:addA a 0=some r):OpOk P o s ⟨a,[],[]⟩:=
 opok_value fun {w F O μ K ft act} hs=>by
  have h:=hx hs
  obtain ⟨b,o',hv,_⟩:=addA_ok hr h
  exact ⟨_,by simp only [execOp,ho,hv];rfl,hv▸h⟩
theorem op_indexAddr_fs {o:Oper} {s:SSt} {x y:Operand} {t et:TypeId} {ti:TypeInfo} {esz n:Nat} {e:Nat→Nat→AV} {k:IntKind} {i:Int} (ho:o.op=.indexAddr t x y) (hx:Opd s x (.fs esz n e)) (hy:Opd s y (.int k i))
  (ht:P.underlying t=some (.slice et)) (hi:P.info? et=some ti) (hs:ti.size=esz) (h0:0≤i) (h1:i < n):OpOk P o s ⟨.fp esz (e i.toNat) 0,[],[]⟩:=
 opok_value fun {w F O μ K ft a} hsr=>by
  have h:=hx hsr
  have h':=(hy hsr).int_inv
  have hlt:i.toNat < n:=by omega
  generalize hv:a.eval x=v at h
  cases h with
  | fs _ _ _ b o' cap u hF hc hu hv'=>
   refine ⟨.pointer (some ⟨b,o'+i.toNat*esz,none⟩),?_,.fp _ _ _ b _ (fun j=>u i.toNat j) hF (fun j hj=>?_) (fun j hj=>?_)⟩
   ·simp [execOp,ho,hv,h',Instr.indexAt,asIntOf,run_und ht,h0,h1,run_siz hi,hs,add_mk]
   ·exact (hu i.toNat j hlt (by omega)).1
   ·simpa using hv' i.toNat j hlt (by omega)
  | fsnil=>omega
def rowAV (v:Bool) (id n esz:Nat):AV:=match v with
 | true=>.vs id n esz
 | false=>.ms id 0 n esz
theorem rowAV_ok {v:Bool} {id n esz:Nat} {u:Value} (hv:VR w F μ K (rowAV v id n esz) u) (hn:n≠0):∃ cap,u=.slice (some ⟨μ id,0,none⟩) n cap∧n≤cap∧K id:=by
 cases v with
 | false=>cases hv with | ms id i n esz cap sz t hid hc hs hsz=>exact ⟨cap,by simp,hc,hid⟩
 | true=>cases hv with
  | vs id n esz cap sz t hn hid hc hs hsz=>exact ⟨cap,rfl,hc,hid⟩
  | vsnil=>exact absurd rfl hn
theorem op_indexAddr_own {o:Oper} {s:SSt} {x y:Operand} {t et:TypeId} {ti:TypeInfo} {v:Bool} {id esz n:Nat} {k:IntKind} {i:Int} (ho:o.op=.indexAddr t x y) (hx:Opd s x (rowAV v id n esz)) (hy:Opd s y (.int k i))
  (ht:P.underlying t=some (.slice et)) (hi:P.info? et=some ti) (hs:ti.size=esz) (h0:0≤i) (h1:i < n):OpOk P o s ⟨.rp id esz i.toNat 0,[],[]⟩:=
 opok_value fun {w F O μ K ft a} hsr=>by
  have h':=(hy hsr).int_inv
  obtain ⟨cap,hv,_,hid⟩:=rowAV_ok (hx hsr) (by omega)
  refine ⟨.pointer (some ⟨μ id,i.toNat*esz,none⟩),?_,.rp id esz i.toNat 0 hid⟩
  simp [execOp,ho,hv,h',Instr.indexAt,asIntOf,run_und ht,h0,h1,run_siz hi,hs,add_mk]
theorem loadVar_agg {t:TypeId} {d:TypeDesc} {i:TypeInfo} (ht:P.underlying t=some d) (hi:P.info? t=some i) (ha:aggD d=true) (b o:Nat) (u:Nat→Value)
  (hu:∀ j,j < i.size→w.cell? ⟨b,o+j,none⟩=some (u j)):(Instr.loadAt t (.pointer (some ⟨b,o,none⟩))).run P w=.ok (.agg ⟨(List.range i.size).map u⟩) w:=by
 simp only [Instr.loadAt,Instr.sureAddr,Sem.run_bind,Sem.run_pure,Result.andThen_ok,loadVar,run_agg ht,ha,if_true,run_siz hi]
 rw [run_loadCells w _ _ u fun j hj=>by rw [add_mk];exact hu j hj]
 rfl
theorem loadVar_one {t:TypeId} {d:TypeDesc} (ht:P.underlying t=some d) (ha:aggD d=false) (b o:Nat) (u:Value)
  (hu:w.cell? ⟨b,o,none⟩=some u):(Instr.loadAt t (.pointer (some ⟨b,o,none⟩))).run P w=.ok u w:=by
 simp only [Instr.loadAt,Instr.sureAddr,Sem.run_bind,Sem.run_pure,Result.andThen_ok,loadVar,run_agg ht,ha,Bool.false_eq_true,if_false]
 simp [hu]
def AV.isOs:AV→Bool
 | .os _ _ _=>true
 | _=>false
theorem OwnR.closed {S:Nat→Prop} {a:AV} {v:Value} (h:OwnR w F μ S a v) (ha:a.isOs=false):VR w F μ NoK a v∧∀ x,¬ S x:=by
 cases h with
 | clo S a v h hS=>exact ⟨h,hS⟩
 | osnil=>cases ha
 | os=>cases ha
def CellsAt (w:World) (F:Nat→Prop) (μ:Nat→Nat) (K:Nat→Prop) (n:Nat) (c:Nat→AV) (v:Value):Prop:=
 ∃ (b o:Nat) (u:Nat→Value),v=.pointer (some ⟨b,o,none⟩)∧∀ j,j < n→w.cell? ⟨b,o+j,none⟩=some (u j)∧VR w F μ K (c j) (u j)
def Rdb (s:SSt) (x:Operand) (n:Nat) (c:Nat→AV):Prop:=∀ {w F O μ K ft act},SR w F O μ K s ft act→CellsAt w F μ K n c (act.eval x)
theorem rdb_fp {s:SSt} {x:Operand} {n esz off:Nat} {e:Nat→AV} (hx:Opd s x (.fp esz e off)) (hle:off+n≤esz):Rdb s x n fun j=>e (off+j):=fun {w F O μ K ft act} hs=>by
 have h:=hx hs
 generalize act.eval x=v at h
 cases h with
 | fp _ _ _ b o u hF hu hv=>exact ⟨b,o,u,rfl,fun j hj=>⟨hu j (by omega),(hv j (by omega)).up⟩⟩
theorem rdb_bp {s:SSt} {x:Operand} {n id off:Nat} {l:List AV} (hx:Opd s x (.bp id off)) (hb:s.H id=some (.box l)) (hle:off+n≤l.length):Rdb s x n fun j=>l.getD (off+j) .top:=fun {w F O μ K ft act} hs=>by
 have h:=hx hs
 obtain ⟨ob,hob,cs,t,rfl,_,hsz,hB⟩:=hs.hr.blk id _ hb rfl
 generalize act.eval x=v at h
 cases h with
 | bp _ _ hid=>
  refine ⟨_,_,fun j=>cs.getD (off+j) undef,rfl,fun j hj=>⟨?_,hB (off+j) (by omega)⟩⟩
  have hlt:off+j < cs.size:=Nat.lt_of_lt_of_le (by omega) hsz
  simp [World.cell?,hob,hlt]
theorem rdb_rp {s:SSt} {x:Operand} {n id esz i j m:Nat} {v:Bool} {e:Nat→Nat→AV} (hx:Opd s x (.rp id esz i j)) (hb:s.H id=some (.row v esz m e)) (hi:i < m) (hle:j+n≤esz)
  (hc:∀ k,k < n→(e i (j+k)).isOs=false):Rdb s x n fun k=>e i (j+k):=fun {w F O μ K ft act} hs=>by
 have h:=hx hs
 have hl:(Blk.row v esz m e).lies=true:=by cases v<;>simp [Blk.lies];omega
 obtain ⟨ob,hob,cs,t,S',rfl,hB⟩:=hs.hr.blk id _ hb hl
 generalize act.eval x=u at h
 cases h with
 | rp _ _ _ _ hid=>
  refine ⟨_,_,fun k=>cs.getD (i*esz+j+k) undef,rfl,fun k hk=>?_⟩
  have h2:(i+1)*esz≤m*esz:=Nat.mul_le_mul_right _ hi
  rw [Nat.add_mul,Nat.one_mul] at h2
  have hsz:=hB.size
  have hlt:i*esz+j+k < cs.size:=by omega
  refine ⟨by simp [World.cell?,hob,hlt],?_⟩
  have:=(hB.cell i (j+k) hi (by omega)).1.closed (hc k hk)
  rw [← Nat.add_assoc] at this
  exact this.1.up
theorem range_map_VRs {n:Nat} {c:Nat→AV} {u:Nat→Value} (h:∀ j,j < n→VR w F μ K (c j) (u j)):VRs w F μ K ((List.range n).map c) ((List.range n).map u):=
 ⟨by simp,fun i hi=>by
  simp only [List.length_map,List.length_range] at hi
  simpa [List.getD,hi] using h i hi⟩
theorem op_load_agg {o:Oper} {s:SSt} {x:Operand} {t:TypeId} {d:TypeDesc} {i:TypeInfo} {c:Nat→AV} (ho:o.op=.load t x) (ht:P.underlying t=some d) (hi:P.info? t=some i) (ha:aggD d=true)
  (hc:Rdb s x i.size c):OpOk P o s ⟨.agg ((List.range i.size).map c),[],[]⟩:=
 opok_value fun {w F O μ K ft act} hsr=>by
  obtain ⟨b,o',u,hv,hu⟩:=hc hsr
  exact ⟨_,by simp only [execOp,ho,hv,Sem.run_bind,loadVar_agg ht hi ha b o' u (fun j hj=>(hu j hj).1),Result.andThen_ok,Sem.run_pure],.mkAgg (range_map_VRs fun j hj=>(hu j hj).2)⟩
theorem op_load_one {o:Oper} {s:SSt} {x:Operand} {t:TypeId} {d:TypeDesc} {c:Nat→AV} (ho:o.op=.load t x) (ht:P.underlying t=some d) (ha:aggD d=false)
  (hc:Rdb s x 1 c):OpOk P o s ⟨c 0,[],[]⟩:=
 opok_value fun {w F O μ K ft act} hsr=>by
  obtain ⟨b,o',u,hv,hu⟩:=hc hsr
  exact ⟨_,by simp only [execOp,ho,hv,Sem.run_bind,loadVar_one ht ha b o' (u 0) (hu 0 (by omega)).1,Result.andThen_ok,Sem.run_pure],(hu 0 (by omega)).2⟩
theorem VRs.take_drop {l:List AV} {vs:List Value} (h:VRs w F μ K l vs) (o n:Nat):VRs w F μ K ((l.drop o).take n) ((vs.drop o).take n):=
 ⟨by simp [h.1],fun i hi=>by
  simp only [List.length_take,List.length_drop] at hi
  have:=h.2 (o+i) (by omega)
  have h2:o+i < l.length:=by omega
  have h3:o+i < vs.length:=h.1▸h2
  have h4:i < n:=by omega
  simpa [List.getD,List.getElem?_take,List.getElem?_drop,h4,h2,h3] using this⟩
def partA (P:Program) (t:TypeId) (cs:List AV) (off:Nat):Option AV:=
 match P.underlying t,P.info? t with
 | some d,some i=>if aggD d then some (.agg ((cs.drop off).take i.size)) else if off.blt cs.length then some (cs.getD off .top) else none
 | _,_=>none
theorem partA_ok {t:TypeId} {cs:List AV} {vs:List Value} {off:Nat} {r:AV} (h:partA P t cs off=some r) (hv:VRs w F μ K cs vs):∃ v,(part t ⟨vs⟩ off).run P w=.ok v w∧VR w F μ K r v:=by
 unfold partA at h
 split at h
 ·rename_i d i hd hi
  split at h
  ·rename_i ha
   cases h
   refine ⟨.agg ⟨(vs.drop off).take i.size⟩,?_,.mkAgg (hv.take_drop off i.size)⟩
   simp only [part,Sem.run_bind,run_agg hd,ha,if_true,run_siz hi,Result.andThen_ok,Sem.run_pure]
   congr 2
   simp [List.extract_eq_take_drop]
  ·rename_i ha
   split at h
   ·rename_i hlt
    cases h
    have hlt:off < cs.length:=Nat.le_of_ble_eq_true (by simpa [Nat.blt] using hlt)
    have hlt':off < vs.length:=hv.1▸hlt
    refine ⟨vs.getD off undef,?_,hv.2 off hlt⟩
    simp only [part,Sem.run_bind,run_agg hd,Result.andThen_ok,if_neg ha]
    simp [hlt',List.getD]
   ·cases h
 ·cases h
theorem op_field {o:Oper} {s:SSt} {x:Operand} {t:TypeId} {k:Nat} {f:Field} {cs:List AV} {r:AV} (ho:o.op=.field t x k) (hx:Opd s x (.agg cs)) (hf:fieldOf P t k=some f) (hr:partA P f.type cs f.offset=some r):
  OpOk P o s ⟨r,[],[]⟩:=
 opok_value fun {w F O μ K ft act} hsr=>by
  obtain ⟨vs,hv,hvs⟩:=(hx hsr).agg_inv
  obtain ⟨v,hp,hr'⟩:=partA_ok hr hvs
  unfold fieldOf at hf
  split at hf
  ·rename_i fs hu
   exact ⟨v,by simp [execOp,ho,hv,Instr.field,run_und hu,hf,asAgg,hp],hr'⟩
  ·cases hf
def sliceD:TypeDesc→Bool
 | .slice _=>true
 | _=>false
def stringD:TypeDesc→Bool
 | .string=>true
 | _=>false
def lenA:AV→Option Nat
 | .fs _ n _=>some n
 | .ms _ _ n _=>some n
 | .vs _ n _=>some n
 | .nils=>some 0
 | _=>none
theorem lenA_ok {a:AV} {n:Nat} (h:lenA a=some n) {v:Value} (hv:VR w F μ K a v):∃ A cap,v=.slice A n cap:=by
 cases a<;>simp [lenA] at h<;>subst h<;>cases hv<;>exact ⟨_,_,rfl⟩
theorem op_len_str {o:Oper} {s:SSt} {x:Operand} {t:TypeId} {d:TypeDesc} {m:List UInt8} (ho:o.op=.call ⟨.builtin .len,#[x],#[t]⟩) (hx:Opd s x (.str m)) (ht:P.underlying t=some d)
  (hd:stringD d=true):OpOk P o s ⟨.int .i64 (m.length:Int),[],[]⟩:=
 opok_value fun {w F O μ K ft act} hsr=>by
  refine ⟨.int .i64 (m.length:Int),?_,.int _ _⟩
  have h:=(hx hsr).str_inv
  cases d<;>simp [stringD] at hd
  simp [execOp,ho,resolve,invoke,builtin,Builtin.len_,run_und ht,h,goInt]
  rfl
theorem op_len {o:Oper} {s:SSt} {x:Operand} {t:TypeId} {d:TypeDesc} {a:AV} {n:Nat} (ho:o.op=.call ⟨.builtin .len,#[x],#[t]⟩) (hx:Opd s x a) (ha:lenA a=some n) (ht:P.underlying t=some d)
  (hd:sliceD d=true):OpOk P o s ⟨.int .i64 (n:Int),[],[]⟩:=
 opok_value fun {w F O μ K ft act} hsr=>by
  refine ⟨.int .i64 (n:Int),?_,.int _ _⟩
  obtain ⟨A,cap,h⟩:=lenA_ok ha (hx hsr)
  cases d<;>simp [sliceD] at hd
  simp [execOp,ho,resolve,invoke,builtin,Builtin.len_,run_und ht,h,goInt]
def Bnd (s:SSt) (d:Int) (x:Option Operand) (i:Int):Prop:=(x=none∧i=d)∨∃ y k,x=some y∧Opd s y (.int k i)
theorem run_bound {x:Value} {k:IntKind} {i:Int} {y:Nat} {c:BoundsCode} (hx:x=.int k i) (h0:0≤i) (h1:i≤y):(Instr.sliceBound x y c).run P w=.ok i.toNat w:=by
 subst hx
 simp only [Instr.sliceBound,asIntOf,Sem.run_bind,Sem.run_pure,Result.andThen_ok,if_pos (And.intro h0 h1)]
theorem run_bounds {s:SSt} {a:Act} (hs:SR w F O μ K s ft a) {lo hi:Option Operand} {l h:Int} {isSl:Bool} {n cap:Nat} (hl:Bnd s 0 lo l) (hh:Bnd s n hi h)
  (h0:0≤l) (h1:l≤h) (h2:h≤n) (h3:n≤cap):(Instr.sliceBounds isSl n cap (lo.map a.eval) (hi.map a.eval) none).run P w=.ok (l.toNat,h.toNat,cap) w:=by
 have hc:h≤(cap:Int):=by omega
 have hlh:l≤(h.toNat:Int):=by omega
 rcases hh with ⟨rfl,rfl⟩ | ⟨y,k,rfl,hy⟩
 ·rcases hl with ⟨rfl,rfl⟩ | ⟨z,k',rfl,hz⟩
  ·simp [Instr.sliceBounds]
  ·simp [Instr.sliceBounds,run_bound (hz hs).int_inv h0 h1]
 ·rcases hl with ⟨rfl,rfl⟩ | ⟨z,k',rfl,hz⟩
  ·simp [Instr.sliceBounds,run_bound (hy hs).int_inv (Int.le_trans h0 h1) hc]
  ·simp [Instr.sliceBounds,run_bound (hy hs).int_inv (Int.le_trans h0 h1) hc,run_bound (hz hs).int_inv h0 hlh]
def subl {α:Type} (m:List α) (l h:Int):List α:=(m.take h.toNat).drop l.toNat
theorem extract_bytes (m:List UInt8) (l h:Nat):(⟨⟨m⟩⟩:ByteArray).extract l h=⟨⟨(m.take h).drop l⟩⟩:=by
 apply ByteArray.ext
 rw [ByteArray.data_extract]
 apply Array.ext'
 simp [List.extract,List.drop_take]
theorem und_str_sliceAt {t:TypeId} {x:Value} {lo hi mx:Option Value} (ht:P.underlying t=some .string):(Instr.sliceAt t x lo hi mx).run P w=(Instr.slice t x lo hi mx).run P w:=by
 simp only [Instr.sliceAt,Sem.run_bind,run_und ht,Result.andThen_ok]
theorem und_sl_sliceAt {t et:TypeId} {x:Value} {lo hi mx:Option Value} (ht:P.underlying t=some (.slice et)):(Instr.sliceAt t x lo hi mx).run P w=(Instr.slice t x lo hi mx).run P w:=by
 simp only [Instr.sliceAt,Sem.run_bind,run_und ht,Result.andThen_ok]
theorem op_sliceStr {o:Oper} {s:SSt} {x:Operand} {t:TypeId} {lo hi:Option Operand} {m:List UInt8} {l h:Int} (ho:o.op=.slice t x lo hi none) (hx:Opd s x (.str m)) (ht:P.underlying t=some .string)
  (hl:Bnd s 0 lo l) (hh:Bnd s m.length hi h) (h0:0≤l) (h1:l≤h) (h2:h≤m.length):OpOk P o s ⟨.str (subl m l h),[],[]⟩:=
 opok_value fun {w F O μ K ft a} hs=>by
  refine ⟨.string ⟨⟨subl m l h⟩⟩,?_,.str _⟩
  have hb:=run_bounds (P:=P) (isSl:=false) hs hl hh h0 h1 h2 (Nat.le_refl _)
  have hsz:(⟨⟨m⟩⟩:ByteArray).size=m.length:=rfl
  simp only [execOp,ho,Option.map_none,Sem.run_bind,und_str_sliceAt ht,(hx hs).str_inv,Instr.slice,run_und ht,Result.andThen_ok,hsz,Option.isSome_none,Bool.false_eq_true,if_false,Sem.run_pure]
  rw [hb]
  simp only [Result.andThen_ok,extract_bytes,subl]
theorem op_sliceFs {o:Oper} {s:SSt} {x:Operand} {t et:TypeId} {ti:TypeInfo} {lo hi:Option Operand} {esz n:Nat} {e:Nat→Nat→AV} {l h:Int} (ho:o.op=.slice t x lo hi none) (hx:Opd s x (.fs esz n e))
  (ht:P.underlying t=some (.slice et)) (hi':P.info? et=some ti) (hsz:ti.size=esz)
  (hl:Bnd s 0 lo l) (hh:Bnd s n hi h) (h0:0≤l) (h1:l≤h) (h2:h≤n):OpOk P o s ⟨.fs esz (h.toNat-l.toNat) (fun i j=>e (l.toNat+i) j),[],[]⟩:=
 opok_value fun {w F O μ K ft a} hs=>by
  have hv:=hx hs
  generalize hv':a.eval x=v at hv
  cases hv with
  | fs _ _ _ b o' cap u hF hc hu hv=>
   have hb:=run_bounds (P:=P) (isSl:=true) hs hl hh h0 h1 h2 hc
   refine ⟨.slice (if cap=l.toNat then some ⟨b,o',none⟩ else (some ⟨b,o',none⟩:Option Addr).map (·.add (l.toNat*ti.size))) (h.toNat-l.toNat) (cap-l.toNat),?_,?_⟩
   ·simp only [execOp,ho,Option.map_none,Sem.run_bind,und_sl_sliceAt ht,hv',Instr.slice,run_und ht,Result.andThen_ok]
    rw [hb]
    simp only [Result.andThen_ok,run_siz hi',Sem.run_pure]
   ·split
    ·rename_i he
     exact .fs _ _ _ b o' _ (fun i j=>u i j) hF (by omega) (fun i j hi=>by omega) (fun i j hi=>by omega)
    ·simp only [Option.map_some,add_mk]
     refine .fs _ _ _ b _ _ (fun i j=>u (l.toNat+i) j) hF (by omega) (fun i j hi hj=>?_) (fun i j hi hj=>hv _ _ (by omega) hj)
     have:=hu (l.toNat+i) j (by omega) hj
     rw [hsz]
     rw [Nat.add_mul,← Nat.add_assoc] at this
     exact this
  | fsnil _ _ ad cap=>
   have hb:=run_bounds (P:=P) (isSl:=true) (cap:=cap) hs hl hh h0 h1 h2 (Nat.zero_le _)
   have hl0:l.toNat=0:=by omega
   have hh0:h.toNat=0:=by omega
   refine ⟨.slice (if cap=l.toNat then ad else ad.map (·.add (l.toNat*ti.size))) (h.toNat-l.toNat) (cap-l.toNat),?_,?_⟩
   ·simp only [execOp,ho,Option.map_none,Sem.run_bind,und_sl_sliceAt ht,hv',Instr.slice,run_und ht,Result.andThen_ok]
    rw [hb]
    simp only [Result.andThen_ok,run_siz hi',Sem.run_pure]
   ·rw [hl0,hh0];exact .fsnil _ _ _ _
end Go.Proofs.Ytljfmaaadnoggaa.Abs
