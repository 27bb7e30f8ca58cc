/- Operations that only yield a value, the second part: addresses, loads, parts, lengths, slices. No condition. -/
import Derived.Test.YtjkbbdldmdajkaaGreatDoorVC
namespace Go.Proofs.YtjkbbdldmdajkaaGreatDoor.c_
open Go Go.RowKit
variable {w w' xk:World} {F F' Bs O O' v8:Nat→Prop} {μ bC lG:Nat→Nat} {K K' EF:Nat→Prop} {H H' H'':Hp} {ft bZ:Nat→Nat→Prop} {P:Program}
theorem wy (b o n:Nat):(⟨b,o,none⟩:Addr).add n=⟨b,o+n,none⟩:=by
 unfold Addr.add;split
 ·rename_i h;subst h;rfl
 ·rfl
theorem Nz {f:Field} {i:TypeInfo} (hi:P.info? f.type=some i) (hz:i.size≠0) (b o:Nat):
  (fieldPlace ⟨b,o,none⟩ f).run P w=.ok ⟨b,o+f.offset,none⟩ w:=by
 simp [fieldPlace,gD hi,hz,wy]
def I5 (P:Program) (t:TypeId) (k:Nat):Option Field:=
 match P.underlying t with
 | some (.struct fs)=>fs[k]?
 | _=>none
def Wo (P:Program) (t:TypeId) (k:Nat):Option Nat:=
 match I5 P t k with
 | some f=>match P.info? f.type with
  | some i=>if i.size==0 then none else some f.offset
  | none=>none
 | none=>none
theorem Tk {t:TypeId} {k off:Nat} (h:Wo P t k=some off) (b o:Nat):(Instr.fieldAt t (.pointer (some ⟨b,o,none⟩)) k).run P w=.ok (.pointer (some ⟨b,o+off,none⟩)) w:=by
 unfold Wo I5 at h;split at h
 ·rename_i f hf;split at hf
  ·rename_i fs hu;split at h
   ·rename_i i hi;split at h
    ·cases h
    ·rename_i hz;simp only [Option.some.injEq] at h;subst h;have hz':i.size≠0:=by simpa using hz
     simp [Instr.fieldAt,cb hu,hf,Instr.sureAddr,Nz hi hz']
   ·cases h
  ·cases hf
 ·cases h
def Po (a:AV) (off:Nat):Option AV:=
 match a with
 | .fp bA e o=>some (.fp bA e (o+off))
 | .rb cs o=>some (.rb cs (o+off))
 | .bp id o=>some (.bp id (o+off))
 | .rp id bA i j=>some (.rp id bA i (j+off))
 | _=>none
theorem Wp {a r:AV} {off:Nat} (h:Po a off=some r) {v:Value} (hv:VR w F μ K a v):
  ∃ b o,v=.pointer (some ⟨b,o,none⟩)∧VR w F μ K r (.pointer (some ⟨b,o+off,none⟩)):=by
 cases a<;>simp [Po] at h<;>subst h
 ·cases hv with
  | fp bA e o b o' u hF hu hv=>
   refine ⟨b,o',rfl,.fp _ _ _ b _ (fun j=>u (off+j)) hF (fun j hj=>?_) (fun j hj=>?_)⟩
   ·have:=hu (off+j) (by omega);rw [← this];congr 2;omega
   ·have:=hv (off+j) (by omega);rwa [← Nat.add_assoc] at this
 ·cases hv with | rb cs o b u hF hu hv=>exact ⟨_,_,rfl,.rb _ _ b u hF hu hv⟩
 ·cases hv with | bp id o bY=>exact ⟨_,_,rfl,.bp _ _ bY⟩
 ·cases hv with | rp id bA i j bY=>exact ⟨_,_,rfl,by rw [Nat.add_assoc];exact .rp _ _ _ _ bY⟩
theorem Ru {o:Oper} {s:fT} {x:Operand} {t:TypeId} {k off:Nat} {a r:AV} (ho:o.op=.fieldAddr t x k) (hx:ee s x a) (hf:Wo P t k=some off) (hr:Po a off=some r):
  dr P o s ⟨r,[],[]⟩:=
 b6 fun {w F O μ K ft act} hs=>by
  obtain ⟨b,o',hv,DP⟩:=Wp hr (hx hs);exact ⟨_,by simp [execOp,ho,hv,Tk hf],DP⟩
theorem Tl {o:Oper} {s:fT} {x:Operand} {a r:AV} (ho:o.op=.nilCheck x) (hx:ee s x a) (hr:Po a 0=some r):dr P o s ⟨a,[],[]⟩:=
 b6 fun {w F O μ K ft act} hs=>by
  have h:=hx hs;obtain ⟨b,o',hv,_⟩:=Wp hr h;exact ⟨_,by simp only [execOp,ho,hv];rfl,hv▸h⟩
theorem LY {o:Oper} {s:fT} {x y:Operand} {t et:TypeId} {ti:TypeInfo} {bA n:Nat} {e:Nat→Nat→AV} {k:IntKind} {i:Int} (ho:o.op=.indexAddr t x y) (hx:ee s x (.fs bA n e)) (hy:ee s y (.int k i))
  (ht:P.underlying t=some (.slice et)) (hi:P.info? et=some ti) (hs:ti.size=bA) (h0:0≤i) (h1:i < n):dr P o s ⟨.fp bA (e i.toNat) 0,[],[]⟩:=
 b6 fun {w F O μ K ft a} gh=>by
  have h:=hx gh;have h':=(hy gh).de;have dQ:i.toNat < n:=by omega
  generalize hv:a.eval x=v at h;cases h with
  | fs _ _ _ b o' cap u hF hc hu I4=>
   refine ⟨.pointer (some ⟨b,o'+i.toNat*bA,none⟩),?_,.fp _ _ _ b _ (fun j=>u i.toNat j) hF (fun j hj=>?_) (fun j hj=>?_)⟩
   ·simp [execOp,ho,hv,h',Instr.indexAt,asIntOf,cb ht,h0,h1,gD hi,hs,wy]
   ·exact (hu i.toNat j dQ (by omega)).1
   ·simpa using I4 i.toNat j dQ (by omega)
  | v7=>omega
def du (v:Bool) (id n bA:Nat):AV:=match v with
 | true=>.vs id n bA
 | false=>.ms id 0 n bA
theorem Tm {v:Bool} {id n bA:Nat} {u:Value} (hv:VR w F μ K (du v id n bA) u) (hn:n≠0):∃ cap,u=.slice (some ⟨μ id,0,none⟩) n cap∧n≤cap∧K id:=by
 cases v with
 | false=>cases hv with | ms id i n bA cap sz t bY hc hs fV=>exact ⟨cap,by simp,hc,bY⟩
 | true=>cases hv with
  | vs id n bA cap sz t hn bY hc hs fV=>exact ⟨cap,rfl,hc,bY⟩
  | s9=>exact absurd rfl hn
theorem Bt {o:Oper} {s:fT} {x y:Operand} {t et:TypeId} {ti:TypeInfo} {v:Bool} {id bA n:Nat} {k:IntKind} {i:Int} (ho:o.op=.indexAddr t x y) (hx:ee s x (du v id n bA)) (hy:ee s y (.int k i))
  (ht:P.underlying t=some (.slice et)) (hi:P.info? et=some ti) (hs:ti.size=bA) (h0:0≤i) (h1:i < n):dr P o s ⟨.rp id bA i.toNat 0,[],[]⟩:=
 b6 fun {w F O μ K ft a} gh=>by
  have h':=(hy gh).de;obtain ⟨cap,hv,_,bY⟩:=Tm (hx gh) (by omega);refine ⟨.pointer (some ⟨μ id,i.toNat*bA,none⟩),?_,.rp id bA i.toNat 0 bY⟩;simp [execOp,ho,hv,h',Instr.indexAt,asIntOf,cb ht,h0,h1,gD hi,hs,wy]
theorem EJ {t:TypeId} {d:TypeDesc} {i:TypeInfo} (ht:P.underlying t=some d) (hi:P.info? t=some i) (ha:I3 d=true) (b o:Nat) (u:Nat→Value)
  (hu:∀ j,j < i.size→w.cell? ⟨b,o+j,none⟩=some (u j)):(Instr.loadAt t (.pointer (some ⟨b,o,none⟩))).run P w=.ok (.agg ⟨(List.range i.size).map u⟩) w:=by
 simp only [Instr.loadAt,Instr.sureAddr,Sem.run_bind,Sem.run_pure,Result.andThen_ok,loadVar,Mf ht,ha,if_true,gD hi];rw [run_loadCells w _ _ u fun j hj=>by rw [wy];exact hu j hj];rfl
theorem EK {t:TypeId} {d:TypeDesc} (ht:P.underlying t=some d) (ha:I3 d=false) (b o:Nat) (u:Value)
  (hu:w.cell? ⟨b,o,none⟩=some u):(Instr.loadAt t (.pointer (some ⟨b,o,none⟩))).run P w=.ok u w:=by
 simp only [Instr.loadAt,Instr.sureAddr,Sem.run_bind,Sem.run_pure,Result.andThen_ok,loadVar,Mf ht,ha,Bool.false_eq_true,if_false];simp [hu]
def AV.Kw:AV→Bool
 | .os _ _ _=>true
 | _=>false
theorem jP.closed {S:Nat→Prop} {a:AV} {v:Value} (h:jP w F μ S a v) (ha:a.Kw=false):VR w F μ Dc a v∧∀ x,¬ S x:=by
 cases h with
 | IY S a v h hS=>exact ⟨h,hS⟩
 | Br=>cases ha
 | os=>cases ha
def I6 (w:World) (F:Nat→Prop) (μ:Nat→Nat) (K:Nat→Prop) (n:Nat) (c:Nat→AV) (v:Value):Prop:=
 ∃ (b o:Nat) (u:Nat→Value),v=.pointer (some ⟨b,o,none⟩)∧∀ j,j < n→w.cell? ⟨b,o+j,none⟩=some (u j)∧VR w F μ K (c j) (u j)
def Rdb (s:fT) (x:Operand) (n:Nat) (c:Nat→AV):Prop:=∀ {w F O μ K ft act},SR w F O μ K s ft act→I6 w F μ K n c (act.eval x)
theorem ad7 {s:fT} {x:Operand} {n bA off:Nat} {e:Nat→AV} (hx:ee s x (.fp bA e off)) (hle:off+n≤bA):Rdb s x n fun j=>e (off+j):=fun {w F O μ K ft act} hs=>by
 have h:=hx hs;generalize act.eval x=v at h;cases h with
 | fp _ _ _ b o u hF hu hv=>exact ⟨b,o,u,rfl,fun j hj=>⟨hu j (by omega),(hv j (by omega)).up⟩⟩
theorem ad8 {s:fT} {x:Operand} {n off:Nat} {cs:List AV} (hx:ee s x (.rb cs off)) (hle:off+n≤cs.length):Rdb s x n fun j=>cs.getD (off+j) .top:=fun {w F O μ K ft act} hs=>by
 have h:=hx hs;generalize act.eval x=v at h;cases h with
 | rb _ _ b u hF hu hv=>exact ⟨b,off,fun j=>u (off+j),rfl,fun j hj=>⟨hu (off+j) (by omega),hv (off+j) (by omega)⟩⟩
theorem ad9 {s:fT} {x:Operand} {n id off:Nat} {l:List AV} (hx:ee s x (.bp id off)) (hb:s.H id=some (.box l)) (hle:off+n≤l.length):Rdb s x n fun j=>l.getD (off+j) .top:=fun {w F O μ K ft act} hs=>by
 have h:=hx hs;obtain ⟨ob,p_,cs,t,rfl,_,fV,hB⟩:=hs.hr.dC id _ hb rfl;generalize act.eval x=v at h;cases h with
 | bp _ _ bY=>
  refine ⟨_,_,fun j=>cs.getD (off+j) undef,rfl,fun j hj=>⟨?_,hB (off+j) (by omega)⟩⟩;have dQ:off+j < cs.size:=Nat.lt_of_lt_of_le (by omega) fV;simp [World.cell?,p_,dQ]
theorem ad_ {s:fT} {x:Operand} {n id bA i j m:Nat} {v:Bool} {e:Nat→Nat→AV} (hx:ee s x (.rp id bA i j)) (hb:s.H id=some (.row v bA m e)) (hi:i < m) (hle:j+n≤bA)
  (hc:∀ k,k < n→(e i (j+k)).Kw=false):Rdb s x n fun k=>e i (j+k):=fun {w F O μ K ft act} hs=>by
 have h:=hx hs;have hl:(jV.row v bA m e).fc=true:=by cases v<;>simp [jV.fc];omega
 obtain ⟨ob,p_,cs,t,S',rfl,hB⟩:=hs.hr.dC id _ hb hl;generalize act.eval x=u at h;cases h with
 | rp _ _ _ _ bY=>
  refine ⟨_,_,fun k=>cs.getD (i*bA+j+k) undef,rfl,fun k hk=>?_⟩;have h2:(i+1)*bA≤m*bA:=Nat.mul_le_mul_right _ hi;rw [Nat.add_mul,Nat.one_mul] at h2;have fV:=hB.size;have dQ:i*bA+j+k < cs.size:=by omega
  refine ⟨by simp [World.cell?,p_,dQ],?_⟩;have:=(hB.cell i (j+k) hi (by omega)).1.closed (hc k hk);rw [← Nat.add_assoc] at this;exact this.1.up
theorem Ax {n:Nat} {c:Nat→AV} {u:Nat→Value} (h:∀ j,j < n→VR w F μ K (c j) (u j)):iL w F μ K ((List.range n).map c) ((List.range n).map u):=
 ⟨by simp,fun i hi=>by
  simp only [List.length_map,List.length_range] at hi;simpa [List.getD,hi] using h i hi⟩
theorem Tn {o:Oper} {s:fT} {x:Operand} {t:TypeId} {d:TypeDesc} {i:TypeInfo} {c:Nat→AV} (ho:o.op=.load t x) (ht:P.underlying t=some d) (hi:P.info? t=some i) (ha:I3 d=true)
  (hc:Rdb s x i.size c):dr P o s ⟨.agg ((List.range i.size).map c),[],[]⟩:=
 b6 fun {w F O μ K ft act} gh=>by
  obtain ⟨b,o',u,hv,hu⟩:=hc gh;exact ⟨_,by simp only [execOp,ho,hv,Sem.run_bind,EJ ht hi ha b o' u (fun j hj=>(hu j hj).1),Result.andThen_ok,Sem.run_pure],.rP (Ax fun j hj=>(hu j hj).2)⟩
theorem Tp {o:Oper} {s:fT} {x:Operand} {t:TypeId} {d:TypeDesc} {c:Nat→AV} (ho:o.op=.load t x) (ht:P.underlying t=some d) (ha:I3 d=false)
  (hc:Rdb s x 1 c):dr P o s ⟨c 0,[],[]⟩:=
 b6 fun {w F O μ K ft act} gh=>by
  obtain ⟨b,o',u,hv,hu⟩:=hc gh;exact ⟨_,by simp only [execOp,ho,hv,Sem.run_bind,EK ht ha b o' (u 0) (hu 0 (by omega)).1,Result.andThen_ok,Sem.run_pure],(hu 0 (by omega)).2⟩
theorem iL.take_drop {l:List AV} {vs:List Value} (h:iL w F μ K l vs) (o n:Nat):iL w F μ K ((l.drop o).take n) ((vs.drop o).take n):=
 ⟨by simp [h.1],fun i hi=>by
  simp only [List.length_take,List.length_drop] at hi;have:=h.2 (o+i) (by omega);have h2:o+i < l.length:=by omega
  have h3:o+i < vs.length:=h.1▸h2;have h4:i < n:=by omega
  simpa [List.getD,List.getElem?_take,List.getElem?_drop,h4,h2,h3] using this⟩
def EL (P:Program) (t:TypeId) (cs:List AV) (off:Nat):Option AV:=
 match P.underlying t,P.info? t with
 | some d,some i=>if I3 d then some (.agg ((cs.drop off).take i.size)) else if off.blt cs.length then some (cs.getD off .top) else none
 | _,_=>none
theorem NA {t:TypeId} {cs:List AV} {vs:List Value} {off:Nat} {r:AV} (h:EL P t cs off=some r) (hv:iL w F μ K cs vs):∃ v,(part t ⟨vs⟩ off).run P w=.ok v w∧VR w F μ K r v:=by
 unfold EL at h;split at h
 ·rename_i d i hd hi;split at h
  ·rename_i ha;cases h;refine ⟨.agg ⟨(vs.drop off).take i.size⟩,?_,.rP (hv.take_drop off i.size)⟩;simp only [part,Sem.run_bind,Mf hd,ha,if_true,gD hi,Result.andThen_ok,Sem.run_pure]
   congr 2
   simp [List.extract_eq_take_drop]
  ·rename_i ha;split at h
   ·rename_i dQ;cases h;have dQ:off < cs.length:=Nat.le_of_ble_eq_true (by simpa [Nat.blt] using dQ);have aan:off < vs.length:=hv.1▸dQ;refine ⟨vs.getD off undef,?_,hv.2 off dQ⟩;simp only [part,Sem.run_bind,Mf hd,Result.andThen_ok,if_neg ha];simp [aan,List.getD]
   ·cases h
 ·cases h
theorem Tq {o:Oper} {s:fT} {x:Operand} {t:TypeId} {k:Nat} {f:Field} {cs:List AV} {r:AV} (ho:o.op=.field t x k) (hx:ee s x (.agg cs)) (hf:I5 P t k=some f) (hr:EL P f.type cs f.offset=some r):
  dr P o s ⟨r,[],[]⟩:=
 b6 fun {w F O μ K ft act} gh=>by
  obtain ⟨vs,hv,zd⟩:=(hx gh).fU;obtain ⟨v,hp,DP⟩:=NA hr zd;unfold I5 at hf;split at hf
  ·rename_i fs hu;exact ⟨v,by simp [execOp,ho,hv,Instr.field,cb hu,hf,asAgg,hp],DP⟩
  ·cases hf
def HM:TypeDesc→Bool
 | .slice _=>true
 | _=>false
def Rv:TypeDesc→Bool
 | .string=>true
 | _=>false
def aea:AV→Option Nat
 | .fs _ n _=>some n
 | .ms _ _ n _=>some n
 | .vs _ n _=>some n
 | .fB=>some 0
 | _=>none
theorem abS {a:AV} {n:Nat} (h:aea a=some n) {v:Value} (hv:VR w F μ K a v):∃ A cap,v=.slice A n cap:=by
 cases a<;>simp [aea] at h<;>subst h<;>cases hv<;>exact ⟨_,_,rfl⟩
theorem Vg {o:Oper} {s:fT} {x:Operand} {t:TypeId} {d:TypeDesc} {m:List UInt8} (ho:o.op=.call ⟨.builtin .len,#[x],#[t]⟩) (hx:ee s x (.str m)) (ht:P.underlying t=some d)
  (hd:Rv d=true):dr P o s ⟨.int .i64 (m.length:Int),[],[]⟩:=
 b6 fun {w F O μ K ft act} gh=>by
  refine ⟨.int .i64 (m.length:Int),?_,.int _ _⟩;have h:=(hx gh).jF;cases d<;>simp [Rv] at hd;simp [execOp,ho,resolve,invoke,builtin,Builtin.len_,cb ht,h,goInt];rfl
theorem NB {o:Oper} {s:fT} {x:Operand} {t:TypeId} {d:TypeDesc} {a:AV} {n:Nat} (ho:o.op=.call ⟨.builtin .len,#[x],#[t]⟩) (hx:ee s x a) (ha:aea a=some n) (ht:P.underlying t=some d)
  (hd:HM d=true):dr P o s ⟨.int .i64 (n:Int),[],[]⟩:=
 b6 fun {w F O μ K ft act} gh=>by
  refine ⟨.int .i64 (n:Int),?_,.int _ _⟩;obtain ⟨A,cap,h⟩:=abS ha (hx gh);cases d<;>simp [HM] at hd;simp [execOp,ho,resolve,invoke,builtin,Builtin.len_,cb ht,h,goInt]
def Bnd (s:fT) (d:Int) (x:Option Operand) (i:Int):Prop:=(x=none∧i=d)∨∃ y k,x=some y∧ee s y (.int k i)
theorem xM {x:Value} {k:IntKind} {i:Int} {y:Nat} {c:BoundsCode} (hx:x=.int k i) (h0:0≤i) (h1:i≤y):(Instr.sliceBound x y c).run P w=.ok i.toNat w:=by
 subst hx;simp only [Instr.sliceBound,asIntOf,Sem.run_bind,Sem.run_pure,Result.andThen_ok,if_pos (And.intro h0 h1)]
theorem HN {s:fT} {a:Act} (hs:SR w F O μ K s ft a) {lo hi:Option Operand} {l h:Int} {LZ:Bool} {n cap:Nat} (hl:Bnd s 0 lo l) (hh:Bnd s n hi h)
  (h0:0≤l) (h1:l≤h) (h2:h≤n) (h3:n≤cap):(Instr.sliceBounds LZ n cap (lo.map a.eval) (hi.map a.eval) none).run P w=.ok (l.toNat,h.toNat,cap) w:=by
 have hc:h≤(cap:Int):=by omega
 have hlh:l≤(h.toNat:Int):=by omega
 rcases hh with ⟨rfl,rfl⟩ | ⟨y,k,rfl,hy⟩
 ·rcases hl with ⟨rfl,rfl⟩ | ⟨z,k',rfl,hz⟩
  ·simp [Instr.sliceBounds]
  ·simp [Instr.sliceBounds,xM (hz hs).de h0 h1]
 ·rcases hl with ⟨rfl,rfl⟩ | ⟨z,k',rfl,hz⟩
  ·simp [Instr.sliceBounds,xM (hy hs).de (Int.le_trans h0 h1) hc]
  ·simp [Instr.sliceBounds,xM (hy hs).de (Int.le_trans h0 h1) hc,xM (hz hs).de h0 hlh]
def BR {α:Type} (m:List α) (l h:Int):List α:=(m.take h.toNat).drop l.toNat
theorem Pp (m:List UInt8) (l h:Nat):(⟨⟨m⟩⟩:ByteArray).extract l h=⟨⟨(m.take h).drop l⟩⟩:=by
 apply ByteArray.ext;rw [ByteArray.data_extract];apply Array.ext';simp [List.extract,List.drop_take]
theorem L0 {t:TypeId} {x:Value} {lo hi mx:Option Value} (ht:P.underlying t=some .string):(Instr.sliceAt t x lo hi mx).run P w=(Instr.slice t x lo hi mx).run P w:=by
 simp only [Instr.sliceAt,Sem.run_bind,cb ht,Result.andThen_ok]
theorem yY {t et:TypeId} {x:Value} {lo hi mx:Option Value} (ht:P.underlying t=some (.slice et)):(Instr.sliceAt t x lo hi mx).run P w=(Instr.slice t x lo hi mx).run P w:=by
 simp only [Instr.sliceAt,Sem.run_bind,cb ht,Result.andThen_ok]
theorem Tr {o:Oper} {s:fT} {x:Operand} {t:TypeId} {lo hi:Option Operand} {m:List UInt8} {l h:Int} (ho:o.op=.slice t x lo hi none) (hx:ee s x (.str m)) (ht:P.underlying t=some .string)
  (hl:Bnd s 0 lo l) (hh:Bnd s m.length hi h) (h0:0≤l) (h1:l≤h) (h2:h≤m.length):dr P o s ⟨.str (BR m l h),[],[]⟩:=
 b6 fun {w F O μ K ft a} hs=>by
  refine ⟨.string ⟨⟨BR m l h⟩⟩,?_,.str _⟩;have hb:=HN (P:=P) (LZ:=false) hs hl hh h0 h1 h2 (Nat.le_refl _);have fV:(⟨⟨m⟩⟩:ByteArray).size=m.length:=rfl;simp only [execOp,ho,Option.map_none,Sem.run_bind,L0 ht,(hx hs).jF,Instr.slice,cb ht,Result.andThen_ok,fV,Option.isSome_none,Bool.false_eq_true,if_false,Sem.run_pure];rw [hb];simp only [Result.andThen_ok,Pp,BR]
theorem Vh {o:Oper} {s:fT} {x:Operand} {t et:TypeId} {ti:TypeInfo} {lo hi:Option Operand} {bA n:Nat} {e:Nat→Nat→AV} {l h:Int} (ho:o.op=.slice t x lo hi none) (hx:ee s x (.fs bA n e))
  (ht:P.underlying t=some (.slice et)) (di:P.info? et=some ti) (fV:ti.size=bA)
  (hl:Bnd s 0 lo l) (hh:Bnd s n hi h) (h0:0≤l) (h1:l≤h) (h2:h≤n):dr P o s ⟨.fs bA (h.toNat-l.toNat) (fun i j=>e (l.toNat+i) j),[],[]⟩:=
 b6 fun {w F O μ K ft a} hs=>by
  have hv:=hx hs;generalize I4:a.eval x=v at hv;cases hv with
  | fs _ _ _ b o' cap u hF hc hu hv=>
   have hb:=HN (P:=P) (LZ:=true) hs hl hh h0 h1 h2 hc;refine ⟨.slice (if cap=l.toNat then some ⟨b,o',none⟩ else (some ⟨b,o',none⟩:Option Addr).map (·.add (l.toNat*ti.size))) (h.toNat-l.toNat) (cap-l.toNat),?_,?_⟩
   ·simp only [execOp,ho,Option.map_none,Sem.run_bind,yY ht,I4,Instr.slice,cb ht,Result.andThen_ok];rw [hb];simp only [Result.andThen_ok,gD di,Sem.run_pure]
   ·split
    ·rename_i he;exact .fs _ _ _ b o' _ (fun i j=>u i j) hF (by omega) (fun i j hi=>by omega) (fun i j hi=>by omega)
    ·simp only [Option.map_some,wy];refine .fs _ _ _ b _ _ (fun i j=>u (l.toNat+i) j) hF (by omega) (fun i j hi hj=>?_) (fun i j hi hj=>hv _ _ (by omega) hj);have:=hu (l.toNat+i) j (by omega) hj;rw [fV];rw [Nat.add_mul,← Nat.add_assoc] at this;exact this
  | v7 _ _ ad cap=>
   have hb:=HN (P:=P) (LZ:=true) (cap:=cap) hs hl hh h0 h1 h2 (Nat.zero_le _);have hl0:l.toNat=0:=by omega
   have hh0:h.toNat=0:=by omega
   refine ⟨.slice (if cap=l.toNat then ad else ad.map (·.add (l.toNat*ti.size))) (h.toNat-l.toNat) (cap-l.toNat),?_,?_⟩
   ·simp only [execOp,ho,Option.map_none,Sem.run_bind,yY ht,I4,Instr.slice,cb ht,Result.andThen_ok];rw [hb];simp only [Result.andThen_ok,gD di,Sem.run_pure]
   ·rw [hl0,hh0];exact .v7 _ _ _ _
end Go.Proofs.YtjkbbdldmdajkaaGreatDoor.c_
