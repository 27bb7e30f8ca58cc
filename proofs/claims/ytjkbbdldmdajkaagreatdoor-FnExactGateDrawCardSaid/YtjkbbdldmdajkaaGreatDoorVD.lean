/- Operations that only yield a value, the second part: addresses, loads, parts, lengths, slices. No condition. -/
import Derived.Test.YtjkbbdldmdajkaaGreatDoorVC
namespace Go.Proofs.YtjkbbdldmdajkaaGreatDoor.c5
open Go Go.RowKit
variable {w w' ss:World} {F F' zT O O' uo:Nat→Prop} {μ aZ jE:Nat→Nat} {K K' C9:Nat→Prop} {H H' H'':Hp} {ft bX:Nat→Nat→Prop} {P:Program}
theorem vo (b o n:Nat):(⟨b,o,none⟩:Addr).add n=⟨b,o+n,none⟩:=by
 unfold Addr.add;split
 ·rename_i h;subst h;rfl
 ·rfl
theorem M0 {f:Field} {i:TypeInfo} (hi:P.info? f.type=some i) (hz:i.size≠0) (b o:Nat):
  (fieldPlace ⟨b,o,none⟩ f).run P w=.ok ⟨b,o+f.offset,none⟩ w:=by
 simp [fieldPlace,gr hi,hz,vo]
def Ix (P:Program) (t:TypeId) (k:Nat):Option Field:=
 match P.underlying t with
 | some (.struct fs)=>fs[k]?
 | _=>none
def V5 (P:Program) (t:TypeId) (k:Nat):Option Nat:=
 match Ix P t k with
 | some f=>match P.info? f.type with
  | some i=>if i.size==0 then none else some f.offset
  | none=>none
 | none=>none
theorem SL {t:TypeId} {k off:Nat} (h:V5 P t k=some off) (b o:Nat):(Instr.fieldAt t (.pointer (some ⟨b,o,none⟩)) k).run P w=.ok (.pointer (some ⟨b,o+off,none⟩)) w:=by
 unfold V5 Ix at h;split at h
 ·rename_i f hf;split at hf
  ·rename_i fs hu;split at h
   ·rename_i i hi;split at h
    ·cases h
    ·rename_i hz;simp only [Option.some.injEq] at h;subst h;have hz':i.size≠0:=by simpa using hz
     simp [Instr.fieldAt,ca hu,hf,Instr.sureAddr,M0 hi hz']
   ·cases h
  ·cases hf
 ·cases h
def OL (a:AV) (off:Nat):Option AV:=
 match a with
 | .fp bB e o=>some (.fp bB e (o+off))
 | .rb cs o=>some (.rb cs (o+off))
 | .bp id o=>some (.bp id (o+off))
 | .rp id bB i j=>some (.rp id bB i (j+off))
 | _=>none
theorem V6 {a r:AV} {off:Nat} (h:OL a off=some r) {v:Value} (hv:VR w F μ K a v):
  ∃ b o,v=.pointer (some ⟨b,o,none⟩)∧VR w F μ K r (.pointer (some ⟨b,o+off,none⟩)):=by
 cases a<;>simp [OL] at h<;>subst h
 ·cases hv with
  | fp bB e o b o' u hF hu hv=>
   refine ⟨b,o',rfl,.fp _ _ _ b _ (fun j=>u (off+j)) hF (fun j hj=>?_) (fun j hj=>?_)⟩
   ·have:=hu (off+j) (by omega);rw [← this];congr 2;omega
   ·have:=hv (off+j) (by omega);rwa [← Nat.add_assoc] at this
 ·cases hv with | rb cs o b u hF hu hv=>exact ⟨_,_,rfl,.rb _ _ b u hF hu hv⟩
 ·cases hv with | bp id o bZ=>exact ⟨_,_,rfl,.bp _ _ bZ⟩
 ·cases hv with | rp id bB i j bZ=>exact ⟨_,_,rfl,by rw [Nat.add_assoc];exact .rp _ _ _ _ bZ⟩
theorem QX {o:Oper} {s:fG} {x:Operand} {t:TypeId} {k off:Nat} {a r:AV} (ho:o.op=.fieldAddr t x k) (hx:dT s x a) (hf:V5 P t k=some off) (hr:OL a off=some r):
  dg P o s ⟨r,[],[]⟩:=
 b7 fun {w F O μ K ft act} hs=>by
  obtain ⟨b,o',hv,C_⟩:=V6 hr (hx hs);exact ⟨_,by simp [execOp,ho,hv,SL hf],C_⟩
theorem SM {o:Oper} {s:fG} {x:Operand} {a r:AV} (ho:o.op=.nilCheck x) (hx:dT s x a) (hr:OL a 0=some r):dg P o s ⟨a,[],[]⟩:=
 b7 fun {w F O μ K ft act} hs=>by
  have h:=hx hs;obtain ⟨b,o',hv,_⟩:=V6 hr h;exact ⟨_,by simp only [execOp,ho,hv];rfl,hv▸h⟩
theorem Lo {o:Oper} {s:fG} {x y:Operand} {t et:TypeId} {ti:TypeInfo} {bB n:Nat} {e:Nat→Nat→AV} {k:IntKind} {i:Int} (ho:o.op=.indexAddr t x y) (hx:dT s x (.fs bB n e)) (hy:dT s y (.int k i))
  (ht:P.underlying t=some (.slice et)) (hi:P.info? et=some ti) (hs:ti.size=bB) (h0:0≤i) (h1:i < n):dg P o s ⟨.fp bB (e i.toNat) 0,[],[]⟩:=
 b7 fun {w F O μ K ft a} fJ=>by
  have h:=hx fJ;have h':=(hy fJ).c8;have dY:i.toNat < n:=by omega
  generalize hv:a.eval x=v at h;cases h with
  | fs _ _ _ b o' cap u hF hc hu Iw=>
   refine ⟨.pointer (some ⟨b,o'+i.toNat*bB,none⟩),?_,.fp _ _ _ b _ (fun j=>u i.toNat j) hF (fun j hj=>?_) (fun j hj=>?_)⟩
   ·simp [execOp,ho,hv,h',Instr.indexAt,asIntOf,ca ht,h0,h1,gr hi,hs,vo]
   ·exact (hu i.toNat j dY (by omega)).1
   ·simpa using Iw i.toNat j dY (by omega)
  | u_=>omega
def dh (v:Bool) (id n bB:Nat):AV:=match v with
 | true=>.vs id n bB
 | false=>.ms id 0 n bB
theorem SN {v:Bool} {id n bB:Nat} {u:Value} (hv:VR w F μ K (dh v id n bB) u) (hn:n≠0):∃ cap,u=.slice (some ⟨μ id,0,none⟩) n cap∧n≤cap∧K id:=by
 cases v with
 | false=>cases hv with | ms id i n bB cap sz t bZ hc hs fh=>exact ⟨cap,by simp,hc,bZ⟩
 | true=>cases hv with
  | vs id n bB cap sz t hn bZ hc hs fh=>exact ⟨cap,rfl,hc,bZ⟩
  | sb=>exact absurd rfl hn
theorem AL {o:Oper} {s:fG} {x y:Operand} {t et:TypeId} {ti:TypeInfo} {v:Bool} {id bB n:Nat} {k:IntKind} {i:Int} (ho:o.op=.indexAddr t x y) (hx:dT s x (dh v id n bB)) (hy:dT s y (.int k i))
  (ht:P.underlying t=some (.slice et)) (hi:P.info? et=some ti) (hs:ti.size=bB) (h0:0≤i) (h1:i < n):dg P o s ⟨.rp id bB i.toNat 0,[],[]⟩:=
 b7 fun {w F O μ K ft a} fJ=>by
  have h':=(hy fJ).c8;obtain ⟨cap,hv,_,bZ⟩:=SN (hx fJ) (by omega);refine ⟨.pointer (some ⟨μ id,i.toNat*bB,none⟩),?_,.rp id bB i.toNat 0 bZ⟩;simp [execOp,ho,hv,h',Instr.indexAt,asIntOf,ca ht,h0,h1,gr hi,hs,vo]
theorem D6 {t:TypeId} {d:TypeDesc} {i:TypeInfo} (ht:P.underlying t=some d) (hi:P.info? t=some i) (ha:Iv d=true) (b o:Nat) (u:Nat→Value)
  (hu:∀ j,j < i.size→w.cell? ⟨b,o+j,none⟩=some (u j)):(Instr.loadAt t (.pointer (some ⟨b,o,none⟩))).run P w=.ok (.agg ⟨(List.range i.size).map u⟩) w:=by
 simp only [Instr.loadAt,Instr.sureAddr,Sem.run_bind,Sem.run_pure,Result.andThen_ok,loadVar,LJ ht,ha,if_true,gr hi];rw [run_loadCells w _ _ u fun j hj=>by rw [vo];exact hu j hj];rfl
theorem D7 {t:TypeId} {d:TypeDesc} (ht:P.underlying t=some d) (ha:Iv d=false) (b o:Nat) (u:Value)
  (hu:w.cell? ⟨b,o,none⟩=some u):(Instr.loadAt t (.pointer (some ⟨b,o,none⟩))).run P w=.ok u w:=by
 simp only [Instr.loadAt,Instr.sureAddr,Sem.run_bind,Sem.run_pure,Result.andThen_ok,loadVar,LJ ht,ha,Bool.false_eq_true,if_false];simp [hu]
def AV.JZ:AV→Bool
 | .os _ _ _=>true
 | _=>false
theorem jy.closed {S:Nat→Prop} {a:AV} {v:Value} (h:jy w F μ S a v) (ha:a.JZ=false):VR w F μ Cv a v∧∀ x,¬ S x:=by
 cases h with
 | Ip S a v h hS=>exact ⟨h,hS⟩
 | AK=>cases ha
 | os=>cases ha
def Iy (w:World) (F:Nat→Prop) (μ:Nat→Nat) (K:Nat→Prop) (n:Nat) (c:Nat→AV) (v:Value):Prop:=
 ∃ (b o:Nat) (u:Nat→Value),v=.pointer (some ⟨b,o,none⟩)∧∀ j,j < n→w.cell? ⟨b,o+j,none⟩=some (u j)∧VR w F μ K (c j) (u j)
def Rdb (s:fG) (x:Operand) (n:Nat) (c:Nat→AV):Prop:=∀ {w F O μ K ft act},SR w F O μ K s ft act→Iy w F μ K n c (act.eval x)
theorem adO {s:fG} {x:Operand} {n bB off:Nat} {e:Nat→AV} (hx:dT s x (.fp bB e off)) (hle:off+n≤bB):Rdb s x n fun j=>e (off+j):=fun {w F O μ K ft act} hs=>by
 have h:=hx hs;generalize act.eval x=v at h;cases h with
 | fp _ _ _ b o u hF hu hv=>exact ⟨b,o,u,rfl,fun j hj=>⟨hu j (by omega),(hv j (by omega)).up⟩⟩
theorem adP {s:fG} {x:Operand} {n off:Nat} {cs:List AV} (hx:dT s x (.rb cs off)) (hle:off+n≤cs.length):Rdb s x n fun j=>cs.getD (off+j) .top:=fun {w F O μ K ft act} hs=>by
 have h:=hx hs;generalize act.eval x=v at h;cases h with
 | rb _ _ b u hF hu hv=>exact ⟨b,off,fun j=>u (off+j),rfl,fun j hj=>⟨hu (off+j) (by omega),hv (off+j) (by omega)⟩⟩
theorem adQ {s:fG} {x:Operand} {n id off:Nat} {l:List AV} (hx:dT s x (.bp id off)) (hb:s.H id=some (.box l)) (hle:off+n≤l.length):Rdb s x n fun j=>l.getD (off+j) .top:=fun {w F O μ K ft act} hs=>by
 have h:=hx hs;obtain ⟨ob,po,cs,t,rfl,_,fh,hB⟩:=hs.hr.du id _ hb rfl;generalize act.eval x=v at h;cases h with
 | bp _ _ bZ=>
  refine ⟨_,_,fun j=>cs.getD (off+j) undef,rfl,fun j hj=>⟨?_,hB (off+j) (by omega)⟩⟩;have dY:off+j < cs.size:=Nat.lt_of_lt_of_le (by omega) fh;simp [World.cell?,po,dY]
theorem adR {s:fG} {x:Operand} {n id bB i j m:Nat} {v:Bool} {e:Nat→Nat→AV} (hx:dT s x (.rp id bB i j)) (hb:s.H id=some (.row v bB m e)) (hi:i < m) (hle:j+n≤bB)
  (hc:∀ k,k < n→(e i (j+k)).JZ=false):Rdb s x n fun k=>e i (j+k):=fun {w F O μ K ft act} hs=>by
 have h:=hx hs;have hl:(jz.row v bB m e).eQ=true:=by cases v<;>simp [jz.eQ];omega
 obtain ⟨ob,po,cs,t,S',rfl,hB⟩:=hs.hr.du id _ hb hl;generalize act.eval x=u at h;cases h with
 | rp _ _ _ _ bZ=>
  refine ⟨_,_,fun k=>cs.getD (i*bB+j+k) undef,rfl,fun k hk=>?_⟩;have h2:(i+1)*bB≤m*bB:=Nat.mul_le_mul_right _ hi;rw [Nat.add_mul,Nat.one_mul] at h2;have fh:=hB.size;have dY:i*bB+j+k < cs.size:=by omega
  refine ⟨by simp [World.cell?,po,dY],?_⟩;have:=(hB.cell i (j+k) hi (by omega)).1.closed (hc k hk);rw [← Nat.add_assoc] at this;exact this.1.up
theorem zL {n:Nat} {c:Nat→AV} {u:Nat→Value} (h:∀ j,j < n→VR w F μ K (c j) (u j)):gZ w F μ K ((List.range n).map c) ((List.range n).map u):=
 ⟨by simp,fun i hi=>by
  simp only [List.length_map,List.length_range] at hi;simpa [List.getD,hi] using h i hi⟩
theorem SO {o:Oper} {s:fG} {x:Operand} {t:TypeId} {d:TypeDesc} {i:TypeInfo} {c:Nat→AV} (ho:o.op=.load t x) (ht:P.underlying t=some d) (hi:P.info? t=some i) (ha:Iv d=true)
  (hc:Rdb s x i.size c):dg P o s ⟨.agg ((List.range i.size).map c),[],[]⟩:=
 b7 fun {w F O μ K ft act} fJ=>by
  obtain ⟨b,o',u,hv,hu⟩:=hc fJ;exact ⟨_,by simp only [execOp,ho,hv,Sem.run_bind,D6 ht hi ha b o' u (fun j hj=>(hu j hj).1),Result.andThen_ok,Sem.run_pure],.qO (zL fun j hj=>(hu j hj).2)⟩
theorem SP {o:Oper} {s:fG} {x:Operand} {t:TypeId} {d:TypeDesc} {c:Nat→AV} (ho:o.op=.load t x) (ht:P.underlying t=some d) (ha:Iv d=false)
  (hc:Rdb s x 1 c):dg P o s ⟨c 0,[],[]⟩:=
 b7 fun {w F O μ K ft act} fJ=>by
  obtain ⟨b,o',u,hv,hu⟩:=hc fJ;exact ⟨_,by simp only [execOp,ho,hv,Sem.run_bind,D7 ht ha b o' (u 0) (hu 0 (by omega)).1,Result.andThen_ok,Sem.run_pure],(hu 0 (by omega)).2⟩
theorem gZ.take_drop {l:List AV} {vs:List Value} (h:gZ w F μ K l vs) (o n:Nat):gZ w F μ K ((l.drop o).take n) ((vs.drop o).take n):=
 ⟨by simp [h.1],fun i hi=>by
  simp only [List.length_take,List.length_drop] at hi;have:=h.2 (o+i) (by omega);have h2:o+i < l.length:=by omega
  have h3:o+i < vs.length:=h.1▸h2;have h4:i < n:=by omega
  simpa [List.getD,List.getElem?_take,List.getElem?_drop,h4,h2,h3] using this⟩
def D8 (P:Program) (t:TypeId) (cs:List AV) (off:Nat):Option AV:=
 match P.underlying t,P.info? t with
 | some d,some i=>if Iv d then some (.agg ((cs.drop off).take i.size)) else if off.blt cs.length then some (cs.getD off .top) else none
 | _,_=>none
theorem M1 {t:TypeId} {cs:List AV} {vs:List Value} {off:Nat} {r:AV} (h:D8 P t cs off=some r) (hv:gZ w F μ K cs vs):∃ v,(part t ⟨vs⟩ off).run P w=.ok v w∧VR w F μ K r v:=by
 unfold D8 at h;split at h
 ·rename_i d i hd hi;split at h
  ·rename_i ha;cases h;refine ⟨.agg ⟨(vs.drop off).take i.size⟩,?_,.qO (hv.take_drop off i.size)⟩;simp only [part,Sem.run_bind,LJ hd,ha,if_true,gr hi,Result.andThen_ok,Sem.run_pure]
   congr 2
   simp [List.extract_eq_take_drop]
  ·rename_i ha;split at h
   ·rename_i dY;cases h;have dY:off < cs.length:=Nat.le_of_ble_eq_true (by simpa [Nat.blt] using dY);have ZH:off < vs.length:=hv.1▸dY;refine ⟨vs.getD off undef,?_,hv.2 off dY⟩;simp only [part,Sem.run_bind,LJ hd,Result.andThen_ok,if_neg ha];simp [ZH,List.getD]
   ·cases h
 ·cases h
theorem SQ {o:Oper} {s:fG} {x:Operand} {t:TypeId} {k:Nat} {f:Field} {cs:List AV} {r:AV} (ho:o.op=.field t x k) (hx:dT s x (.agg cs)) (hf:Ix P t k=some f) (hr:D8 P f.type cs f.offset=some r):
  dg P o s ⟨r,[],[]⟩:=
 b7 fun {w F O μ K ft act} fJ=>by
  obtain ⟨vs,hv,wJ⟩:=(hx fJ).fH;obtain ⟨v,hp,C_⟩:=M1 hr wJ;unfold Ix at hf;split at hf
  ·rename_i fs hu;exact ⟨v,by simp [execOp,ho,hv,Instr.field,ca hu,hf,asAgg,hp],C_⟩
  ·cases hf
def G9:TypeDesc→Bool
 | .slice _=>true
 | _=>false
def QY:TypeDesc→Bool
 | .string=>true
 | _=>false
def adS:AV→Option Nat
 | .fs _ n _=>some n
 | .ms _ _ n _=>some n
 | .vs _ n _=>some n
 | .fb=>some 0
 | _=>none
theorem abn {a:AV} {n:Nat} (h:adS a=some n) {v:Value} (hv:VR w F μ K a v):∃ A cap,v=.slice A n cap:=by
 cases a<;>simp [adS] at h<;>subst h<;>cases hv<;>exact ⟨_,_,rfl⟩
theorem UN {o:Oper} {s:fG} {x:Operand} {t:TypeId} {d:TypeDesc} {m:List UInt8} (ho:o.op=.call ⟨.builtin .len,#[x],#[t]⟩) (hx:dT s x (.str m)) (ht:P.underlying t=some d)
  (hd:QY d=true):dg P o s ⟨.int .i64 (m.length:Int),[],[]⟩:=
 b7 fun {w F O μ K ft act} fJ=>by
  refine ⟨.int .i64 (m.length:Int),?_,.int _ _⟩;have h:=(hx fJ).jn;cases d<;>simp [QY] at hd;simp [execOp,ho,resolve,invoke,builtin,Builtin.len_,ca ht,h,goInt];rfl
theorem M3 {o:Oper} {s:fG} {x:Operand} {t:TypeId} {d:TypeDesc} {a:AV} {n:Nat} (ho:o.op=.call ⟨.builtin .len,#[x],#[t]⟩) (hx:dT s x a) (ha:adS a=some n) (ht:P.underlying t=some d)
  (hd:G9 d=true):dg P o s ⟨.int .i64 (n:Int),[],[]⟩:=
 b7 fun {w F O μ K ft act} fJ=>by
  refine ⟨.int .i64 (n:Int),?_,.int _ _⟩;obtain ⟨A,cap,h⟩:=abn ha (hx fJ);cases d<;>simp [G9] at hd;simp [execOp,ho,resolve,invoke,builtin,Builtin.len_,ca ht,h,goInt]
def Bnd (s:fG) (d:Int) (x:Option Operand) (i:Int):Prop:=(x=none∧i=d)∨∃ y k,x=some y∧dT s y (.int k i)
theorem wQ {x:Value} {k:IntKind} {i:Int} {y:Nat} {c:BoundsCode} (hx:x=.int k i) (h0:0≤i) (h1:i≤y):(Instr.sliceBound x y c).run P w=.ok i.toNat w:=by
 subst hx;simp only [Instr.sliceBound,asIntOf,Sem.run_bind,Sem.run_pure,Result.andThen_ok,if_pos (And.intro h0 h1)]
theorem G_ {s:fG} {a:Act} (hs:SR w F O μ K s ft a) {lo hi:Option Operand} {l h:Int} {Lq:Bool} {n cap:Nat} (hl:Bnd s 0 lo l) (hh:Bnd s n hi h)
  (h0:0≤l) (h1:l≤h) (h2:h≤n) (h3:n≤cap):(Instr.sliceBounds Lq n cap (lo.map a.eval) (hi.map a.eval) none).run P w=.ok (l.toNat,h.toNat,cap) w:=by
 have hc:h≤(cap:Int):=by omega
 have hlh:l≤(h.toNat:Int):=by omega
 rcases hh with ⟨rfl,rfl⟩ | ⟨y,k,rfl,hy⟩
 ·rcases hl with ⟨rfl,rfl⟩ | ⟨z,k',rfl,hz⟩
  ·simp [Instr.sliceBounds]
  ·simp [Instr.sliceBounds,wQ (hz hs).c8 h0 h1]
 ·rcases hl with ⟨rfl,rfl⟩ | ⟨z,k',rfl,hz⟩
  ·simp [Instr.sliceBounds,wQ (hy hs).c8 (Int.le_trans h0 h1) hc]
  ·simp [Instr.sliceBounds,wQ (hy hs).c8 (Int.le_trans h0 h1) hc,wQ (hz hs).c8 h0 hlh]
def OM {α:Type} (m:List α) (l h:Int):List α:=(m.take h.toNat).drop l.toNat
theorem ON (m:List UInt8) (l h:Nat):(⟨⟨m⟩⟩:ByteArray).extract l h=⟨⟨(m.take h).drop l⟩⟩:=by
 apply ByteArray.ext;rw [ByteArray.data_extract];apply Array.ext';simp [List.extract,List.drop_take]
theorem Lr {t:TypeId} {x:Value} {lo hi mx:Option Value} (ht:P.underlying t=some .string):(Instr.sliceAt t x lo hi mx).run P w=(Instr.slice t x lo hi mx).run P w:=by
 simp only [Instr.sliceAt,Sem.run_bind,ca ht,Result.andThen_ok]
theorem x_ {t et:TypeId} {x:Value} {lo hi mx:Option Value} (ht:P.underlying t=some (.slice et)):(Instr.sliceAt t x lo hi mx).run P w=(Instr.slice t x lo hi mx).run P w:=by
 simp only [Instr.sliceAt,Sem.run_bind,ca ht,Result.andThen_ok]
theorem SS {o:Oper} {s:fG} {x:Operand} {t:TypeId} {lo hi:Option Operand} {m:List UInt8} {l h:Int} (ho:o.op=.slice t x lo hi none) (hx:dT s x (.str m)) (ht:P.underlying t=some .string)
  (hl:Bnd s 0 lo l) (hh:Bnd s m.length hi h) (h0:0≤l) (h1:l≤h) (h2:h≤m.length):dg P o s ⟨.str (OM m l h),[],[]⟩:=
 b7 fun {w F O μ K ft a} hs=>by
  refine ⟨.string ⟨⟨OM m l h⟩⟩,?_,.str _⟩;have hb:=G_ (P:=P) (Lq:=false) hs hl hh h0 h1 h2 (Nat.le_refl _);have fh:(⟨⟨m⟩⟩:ByteArray).size=m.length:=rfl;simp only [execOp,ho,Option.map_none,Sem.run_bind,Lr ht,(hx hs).jn,Instr.slice,ca ht,Result.andThen_ok,fh,Option.isSome_none,Bool.false_eq_true,if_false,Sem.run_pure];rw [hb];simp only [Result.andThen_ok,ON,OM]
theorem UO {o:Oper} {s:fG} {x:Operand} {t et:TypeId} {ti:TypeInfo} {lo hi:Option Operand} {bB n:Nat} {e:Nat→Nat→AV} {l h:Int} (ho:o.op=.slice t x lo hi none) (hx:dT s x (.fs bB n e))
  (ht:P.underlying t=some (.slice et)) (da:P.info? et=some ti) (fh:ti.size=bB)
  (hl:Bnd s 0 lo l) (hh:Bnd s n hi h) (h0:0≤l) (h1:l≤h) (h2:h≤n):dg P o s ⟨.fs bB (h.toNat-l.toNat) (fun i j=>e (l.toNat+i) j),[],[]⟩:=
 b7 fun {w F O μ K ft a} hs=>by
  have hv:=hx hs;generalize Iw:a.eval x=v at hv;cases hv with
  | fs _ _ _ b o' cap u hF hc hu hv=>
   have hb:=G_ (P:=P) (Lq:=true) hs hl hh h0 h1 h2 hc;refine ⟨.slice (if cap=l.toNat then some ⟨b,o',none⟩ else (some ⟨b,o',none⟩:Option Addr).map (·.add (l.toNat*ti.size))) (h.toNat-l.toNat) (cap-l.toNat),?_,?_⟩
   ·simp only [execOp,ho,Option.map_none,Sem.run_bind,x_ ht,Iw,Instr.slice,ca ht,Result.andThen_ok];rw [hb];simp only [Result.andThen_ok,gr da,Sem.run_pure]
   ·split
    ·rename_i he;exact .fs _ _ _ b o' _ (fun i j=>u i j) hF (by omega) (fun i j hi=>by omega) (fun i j hi=>by omega)
    ·simp only [Option.map_some,vo];refine .fs _ _ _ b _ _ (fun i j=>u (l.toNat+i) j) hF (by omega) (fun i j hi hj=>?_) (fun i j hi hj=>hv _ _ (by omega) hj);have:=hu (l.toNat+i) j (by omega) hj;rw [fh];rw [Nat.add_mul,← Nat.add_assoc] at this;exact this
  | u_ _ _ ad cap=>
   have hb:=G_ (P:=P) (Lq:=true) (cap:=cap) hs hl hh h0 h1 h2 (Nat.zero_le _);have hl0:l.toNat=0:=by omega
   have hh0:h.toNat=0:=by omega
   refine ⟨.slice (if cap=l.toNat then ad else ad.map (·.add (l.toNat*ti.size))) (h.toNat-l.toNat) (cap-l.toNat),?_,?_⟩
   ·simp only [execOp,ho,Option.map_none,Sem.run_bind,x_ ht,Iw,Instr.slice,ca ht,Result.andThen_ok];rw [hb];simp only [Result.andThen_ok,gr da,Sem.run_pure]
   ·rw [hl0,hh0];exact .u_ _ _ _ _
end Go.Proofs.YtjkbbdldmdajkaaGreatDoor.c5
