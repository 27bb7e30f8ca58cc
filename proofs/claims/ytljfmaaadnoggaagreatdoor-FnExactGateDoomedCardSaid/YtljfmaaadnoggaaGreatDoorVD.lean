/- Operations that only yield a value, the second part: addresses, loads, parts, lengths, slices. No condition. -/
import Derived.Test.YtljfmaaadnoggaaGreatDoorVC
namespace Go.Proofs.YtljfmaaadnoggaaGreatDoor.cX
open Go Go.RowKit
variable {w w' xW:World} {F F' Cq O O' wx:Nat→Prop} {μ bC kZ:Nat→Nat} {K K' Gg:Nat→Prop} {H H' H'':Hp} {ft b8:Nat→Nat→Prop} {P:Program}
theorem zU (b o n:Nat):(⟨b,o,none⟩:Addr).add n=⟨b,o+n,none⟩:=by
 unfold Addr.add
 split
 ·rename_i h;subst h;rfl
 ·rfl
theorem PH {f:Field} {i:TypeInfo} (hi:P.info? f.type=some i) (hz:i.size≠0) (b o:Nat):
  (fieldPlace ⟨b,o,none⟩ f).run P w=.ok ⟨b,o+f.offset,none⟩ w:=by
 simp [fieldPlace,gY hi,hz,zU]
def KZ (P:Program) (t:TypeId) (k:Nat):Option Field:=
 match P.underlying t with
 | some (.struct fs)=>fs[k]?
 | _=>none
def Y3 (P:Program) (t:TypeId) (k:Nat):Option Nat:=
 match KZ P t k with
 | some f=>match P.info? f.type with
  | some i=>if i.size==0 then none else some f.offset
  | none=>none
 | none=>none
theorem VI {t:TypeId} {k off:Nat} (h:Y3 P t k=some off) (b o:Nat):(Instr.fieldAt t (.pointer (some ⟨b,o,none⟩)) k).run P w=.ok (.pointer (some ⟨b,o+off,none⟩)) w:=by
 unfold Y3 KZ at h
 split at h
 ·rename_i f hf
  split at hf
  ·rename_i fs hu
   split at h
   ·rename_i i hi
    split at h
    ·cases h
    ·rename_i hz
     simp only [Option.some.injEq] at h
     subst h
     have hz':i.size≠0:=by simpa using hz
     simp [Instr.fieldAt,ct hu,hf,Instr.sureAddr,PH hi hz']
   ·cases h
  ·cases hf
 ·cases h
def TP (a:AV) (off:Nat):Option AV:=
 match a with
 | .fp bB e o=>some (.fp bB e (o+off))
 | .bp id o=>some (.bp id (o+off))
 | .rp id bB i j=>some (.rp id bB i (j+off))
 | _=>none
theorem Y4 {a r:AV} {off:Nat} (h:TP a off=some r) {v:Value} (hv:VR w F μ K a v):
  ∃ b o,v=.pointer (some ⟨b,o,none⟩)∧VR w F μ K r (.pointer (some ⟨b,o+off,none⟩)):=by
 cases a<;>simp [TP] at h<;>subst h
 ·cases hv with
  | fp bB e o b o' u hF hu hv=>
   refine ⟨b,o',rfl,.fp _ _ _ b _ (fun j=>u (off+j)) hF (fun j hj=>?_) (fun j hj=>?_)⟩
   ·have:=hu (off+j) (by omega);rw [← this];congr 2;omega
   ·have:=hv (off+j) (by omega);rwa [← Nat.add_assoc] at this
 ·cases hv with | bp id o cb=>exact ⟨_,_,rfl,.bp _ _ cb⟩
 ·cases hv with | rp id bB i j cb=>exact ⟨_,_,rfl,by rw [Nat.add_assoc];exact .rp _ _ _ _ cb⟩
theorem TQ {o:Oper} {s:fU} {x:Operand} {t:TypeId} {k off:Nat} {a r:AV} (ho:o.op=.fieldAddr t x k) (hx:ec s x a) (hf:Y3 P t k=some off) (hr:TP a off=some r):
  de P o s ⟨r,[],[]⟩:=
 cd fun {w F O μ K ft act} hs=>by
  obtain ⟨b,o',hv,EZ⟩:=Y4 hr (hx hs)
  exact ⟨_,by simp [execOp,ho,hv,VI hf],EZ⟩
theorem VJ {o:Oper} {s:fU} {x:Operand} {a r:AV} (ho:o.op=.nilCheck x) (hx:ec s x a) (hr:TP a 0=some r):de P o s ⟨a,[],[]⟩:=
 cd fun {w F O μ K ft act} hs=>by
  have h:=hx hs
  obtain ⟨b,o',hv,_⟩:=Y4 hr h
  exact ⟨_,by simp only [execOp,ho,hv];rfl,hv▸h⟩
theorem N2 {o:Oper} {s:fU} {x y:Operand} {t et:TypeId} {ti:TypeInfo} {bB n:Nat} {e:Nat→Nat→AV} {k:IntKind} {i:Int} (ho:o.op=.indexAddr t x y) (hx:ec s x (.fs bB n e)) (hy:ec s y (.int k i))
  (ht:P.underlying t=some (.slice et)) (hi:P.info? et=some ti) (hs:ti.size=bB) (h0:0≤i) (h1:i < n):de P o s ⟨.fp bB (e i.toNat) 0,[],[]⟩:=
 cd fun {w F O μ K ft a} iJ=>by
  have h:=hx iJ
  have h':=(hy iJ).dd
  have dQ:i.toNat < n:=by omega
  generalize hv:a.eval x=v at h
  cases h with
  | fs _ _ _ b o' cap u hF hc hu Mv=>
   refine ⟨.pointer (some ⟨b,o'+i.toNat*bB,none⟩),?_,.fp _ _ _ b _ (fun j=>u i.toNat j) hF (fun j hj=>?_) (fun j hj=>?_)⟩
   ·simp [execOp,ho,hv,h',Instr.indexAt,asIntOf,ct ht,h0,h1,gY hi,hs,zU]
   ·exact (hu i.toNat j dQ (by omega)).1
   ·simpa using Mv i.toNat j dQ (by omega)
  | wv=>omega
def dr (v:Bool) (id n bB:Nat):AV:=match v with
 | true=>.vs id n bB
 | false=>.ms id 0 n bB
theorem VK {v:Bool} {id n bB:Nat} {u:Value} (hv:VR w F μ K (dr v id n bB) u) (hn:n≠0):∃ cap,u=.slice (some ⟨μ id,0,none⟩) n cap∧n≤cap∧K id:=by
 cases v with
 | false=>cases hv with | ms id i n bB cap sz t cb hc hs fL=>exact ⟨cap,by simp,hc,cb⟩
 | true=>cases hv with
  | vs id n bB cap sz t hn cb hc hs fL=>exact ⟨cap,rfl,hc,cb⟩
  | xV=>exact absurd rfl hn
theorem Cr {o:Oper} {s:fU} {x y:Operand} {t et:TypeId} {ti:TypeInfo} {v:Bool} {id bB n:Nat} {k:IntKind} {i:Int} (ho:o.op=.indexAddr t x y) (hx:ec s x (dr v id n bB)) (hy:ec s y (.int k i))
  (ht:P.underlying t=some (.slice et)) (hi:P.info? et=some ti) (hs:ti.size=bB) (h0:0≤i) (h1:i < n):de P o s ⟨.rp id bB i.toNat 0,[],[]⟩:=
 cd fun {w F O μ K ft a} iJ=>by
  have h':=(hy iJ).dd
  obtain ⟨cap,hv,_,cb⟩:=VK (hx iJ) (by omega)
  refine ⟨.pointer (some ⟨μ id,i.toNat*bB,none⟩),?_,.rp id bB i.toNat 0 cb⟩
  simp [execOp,ho,hv,h',Instr.indexAt,asIntOf,ct ht,h0,h1,gY hi,hs,zU]
theorem Gi {t:TypeId} {d:TypeDesc} {i:TypeInfo} (ht:P.underlying t=some d) (hi:P.info? t=some i) (ha:KY d=true) (b o:Nat) (u:Nat→Value)
  (hu:∀ j,j < i.size→w.cell? ⟨b,o+j,none⟩=some (u j)):(Instr.loadAt t (.pointer (some ⟨b,o,none⟩))).run P w=.ok (.agg ⟨(List.range i.size).map u⟩) w:=by
 simp only [Instr.loadAt,Instr.sureAddr,Sem.run_bind,Sem.run_pure,Result.andThen_ok,loadVar,Oj ht,ha,if_true,gY hi]
 rw [run_loadCells w _ _ u fun j hj=>by rw [zU];exact hu j hj]
 rfl
theorem Gj {t:TypeId} {d:TypeDesc} (ht:P.underlying t=some d) (ha:KY d=false) (b o:Nat) (u:Value)
  (hu:w.cell? ⟨b,o,none⟩=some u):(Instr.loadAt t (.pointer (some ⟨b,o,none⟩))).run P w=.ok u w:=by
 simp only [Instr.loadAt,Instr.sureAddr,Sem.run_bind,Sem.run_pure,Result.andThen_ok,loadVar,Oj ht,ha,Bool.false_eq_true,if_false]
 simp [hu]
def AV.My:AV→Bool
 | .os _ _ _=>true
 | _=>false
theorem jO.closed {S:Nat→Prop} {a:AV} {v:Value} (h:jO w F μ S a v) (ha:a.My=false):VR w F μ Ei a v∧∀ x,¬ S x:=by
 cases h with
 | KR S a v h hS=>exact ⟨h,hS⟩
 | Cp=>cases ha
 | os=>cases ha
def K3 (w:World) (F:Nat→Prop) (μ:Nat→Nat) (K:Nat→Prop) (n:Nat) (c:Nat→AV) (v:Value):Prop:=
 ∃ (b o:Nat) (u:Nat→Value),v=.pointer (some ⟨b,o,none⟩)∧∀ j,j < n→w.cell? ⟨b,o+j,none⟩=some (u j)∧VR w F μ K (c j) (u j)
def Rdb (s:fU) (x:Operand) (n:Nat) (c:Nat→AV):Prop:=∀ {w F O μ K ft act},SR w F O μ K s ft act→K3 w F μ K n c (act.eval x)
theorem agm {s:fU} {x:Operand} {n bB off:Nat} {e:Nat→AV} (hx:ec s x (.fp bB e off)) (hle:off+n≤bB):Rdb s x n fun j=>e (off+j):=fun {w F O μ K ft act} hs=>by
 have h:=hx hs
 generalize act.eval x=v at h
 cases h with
 | fp _ _ _ b o u hF hu hv=>exact ⟨b,o,u,rfl,fun j hj=>⟨hu j (by omega),(hv j (by omega)).up⟩⟩
theorem agn {s:fU} {x:Operand} {n id off:Nat} {l:List AV} (hx:ec s x (.bp id off)) (hb:s.H id=some (.box l)) (hle:off+n≤l.length):Rdb s x n fun j=>l.getD (off+j) .top:=fun {w F O μ K ft act} hs=>by
 have h:=hx hs
 obtain ⟨ob,qR,cs,t,rfl,_,fL,hB⟩:=hs.hr.dw id _ hb rfl
 generalize act.eval x=v at h
 cases h with
 | bp _ _ cb=>
  refine ⟨_,_,fun j=>cs.getD (off+j) undef,rfl,fun j hj=>⟨?_,hB (off+j) (by omega)⟩⟩
  have dQ:off+j < cs.size:=Nat.lt_of_lt_of_le (by omega) fL
  simp [World.cell?,qR,dQ]
theorem ago {s:fU} {x:Operand} {n id bB i j m:Nat} {v:Bool} {e:Nat→Nat→AV} (hx:ec s x (.rp id bB i j)) (hb:s.H id=some (.row v bB m e)) (hi:i < m) (hle:j+n≤bB)
  (hc:∀ k,k < n→(e i (j+k)).My=false):Rdb s x n fun k=>e i (j+k):=fun {w F O μ K ft act} hs=>by
 have h:=hx hs
 have hl:(kq.row v bB m e).fa=true:=by cases v<;>simp [kq.fa];omega
 obtain ⟨ob,qR,cs,t,S',rfl,hB⟩:=hs.hr.dw id _ hb hl
 generalize act.eval x=u at h
 cases h with
 | rp _ _ _ _ cb=>
  refine ⟨_,_,fun k=>cs.getD (i*bB+j+k) undef,rfl,fun k hk=>?_⟩
  have h2:(i+1)*bB≤m*bB:=Nat.mul_le_mul_right _ hi
  rw [Nat.add_mul,Nat.one_mul] at h2
  have fL:=hB.size
  have dQ:i*bB+j+k < cs.size:=by omega
  refine ⟨by simp [World.cell?,qR,dQ],?_⟩
  have:=(hB.cell i (j+k) hi (by omega)).1.closed (hc k hk)
  rw [← Nat.add_assoc] at this
  exact this.1.up
theorem Bx {n:Nat} {c:Nat→AV} {u:Nat→Value} (h:∀ j,j < n→VR w F μ K (c j) (u j)):iR w F μ K ((List.range n).map c) ((List.range n).map u):=
 ⟨by simp,fun i hi=>by
  simp only [List.length_map,List.length_range] at hi
  simpa [List.getD,hi] using h i hi⟩
theorem VL {o:Oper} {s:fU} {x:Operand} {t:TypeId} {d:TypeDesc} {i:TypeInfo} {c:Nat→AV} (ho:o.op=.load t x) (ht:P.underlying t=some d) (hi:P.info? t=some i) (ha:KY d=true)
  (hc:Rdb s x i.size c):de P o s ⟨.agg ((List.range i.size).map c),[],[]⟩:=
 cd fun {w F O μ K ft act} iJ=>by
  obtain ⟨b,o',u,hv,hu⟩:=hc iJ
  exact ⟨_,by simp only [execOp,ho,hv,Sem.run_bind,Gi ht hi ha b o' u (fun j hj=>(hu j hj).1),Result.andThen_ok,Sem.run_pure],.rE (Bx fun j hj=>(hu j hj).2)⟩
theorem VM {o:Oper} {s:fU} {x:Operand} {t:TypeId} {d:TypeDesc} {c:Nat→AV} (ho:o.op=.load t x) (ht:P.underlying t=some d) (ha:KY d=false)
  (hc:Rdb s x 1 c):de P o s ⟨c 0,[],[]⟩:=
 cd fun {w F O μ K ft act} iJ=>by
  obtain ⟨b,o',u,hv,hu⟩:=hc iJ
  exact ⟨_,by simp only [execOp,ho,hv,Sem.run_bind,Gj ht ha b o' (u 0) (hu 0 (by omega)).1,Result.andThen_ok,Sem.run_pure],(hu 0 (by omega)).2⟩
theorem iR.take_drop {l:List AV} {vs:List Value} (h:iR w F μ K l vs) (o n:Nat):iR w F μ K ((l.drop o).take n) ((vs.drop o).take n):=
 ⟨by simp [h.1],fun i hi=>by
  simp only [List.length_take,List.length_drop] at hi
  have:=h.2 (o+i) (by omega)
  have h2:o+i < l.length:=by omega
  have h3:o+i < vs.length:=h.1▸h2
  have h4:i < n:=by omega
  simpa [List.getD,List.getElem?_take,List.getElem?_drop,h4,h2,h3] using this⟩
def Gk (P:Program) (t:TypeId) (cs:List AV) (off:Nat):Option AV:=
 match P.underlying t,P.info? t with
 | some d,some i=>if KY d then some (.agg ((cs.drop off).take i.size)) else if off.blt cs.length then some (cs.getD off .top) else none
 | _,_=>none
theorem PI {t:TypeId} {cs:List AV} {vs:List Value} {off:Nat} {r:AV} (h:Gk P t cs off=some r) (hv:iR w F μ K cs vs):∃ v,(part t ⟨vs⟩ off).run P w=.ok v w∧VR w F μ K r v:=by
 unfold Gk at h
 split at h
 ·rename_i d i hd hi
  split at h
  ·rename_i ha
   cases h
   refine ⟨.agg ⟨(vs.drop off).take i.size⟩,?_,.rE (hv.take_drop off i.size)⟩
   simp only [part,Sem.run_bind,Oj hd,ha,if_true,gY hi,Result.andThen_ok,Sem.run_pure]
   congr 2
   simp [List.extract_eq_take_drop]
  ·rename_i ha
   split at h
   ·rename_i dQ
    cases h
    have dQ:off < cs.length:=Nat.le_of_ble_eq_true (by simpa [Nat.blt] using dQ)
    have ach:off < vs.length:=hv.1▸dQ
    refine ⟨vs.getD off undef,?_,hv.2 off dQ⟩
    simp only [part,Sem.run_bind,Oj hd,Result.andThen_ok,if_neg ha]
    simp [ach,List.getD]
   ·cases h
 ·cases h
theorem VN {o:Oper} {s:fU} {x:Operand} {t:TypeId} {k:Nat} {f:Field} {cs:List AV} {r:AV} (ho:o.op=.field t x k) (hx:ec s x (.agg cs)) (hf:KZ P t k=some f) (hr:Gk P f.type cs f.offset=some r):
  de P o s ⟨r,[],[]⟩:=
 cd fun {w F O μ K ft act} iJ=>by
  obtain ⟨vs,hv,CN⟩:=(hx iJ).fK
  obtain ⟨v,hp,EZ⟩:=PI hr CN
  unfold KZ at hf
  split at hf
  ·rename_i fs hu
   exact ⟨v,by simp [execOp,ho,hv,Instr.field,ct hu,hf,asAgg,hp],EZ⟩
  ·cases hf
def JD:TypeDesc→Bool
 | .slice _=>true
 | _=>false
def TR:TypeDesc→Bool
 | .string=>true
 | _=>false
def agp:AV→Option Nat
 | .fs _ n _=>some n
 | .ms _ _ n _=>some n
 | .vs _ n _=>some n
 | .ff=>some 0
 | _=>none
theorem adL {a:AV} {n:Nat} (h:agp a=some n) {v:Value} (hv:VR w F μ K a v):∃ A cap,v=.slice A n cap:=by
 cases a<;>simp [agp] at h<;>subst h<;>cases hv<;>exact ⟨_,_,rfl⟩
theorem XH {o:Oper} {s:fU} {x:Operand} {t:TypeId} {d:TypeDesc} {m:List UInt8} (ho:o.op=.call ⟨.builtin .len,#[x],#[t]⟩) (hx:ec s x (.str m)) (ht:P.underlying t=some d)
  (hd:TR d=true):de P o s ⟨.int .i64 (m.length:Int),[],[]⟩:=
 cd fun {w F O μ K ft act} iJ=>by
  refine ⟨.int .i64 (m.length:Int),?_,.int _ _⟩
  have h:=(hx iJ).jD
  cases d<;>simp [TR] at hd
  simp [execOp,ho,resolve,invoke,builtin,Builtin.len_,ct ht,h,goInt]
  rfl
theorem PJ {o:Oper} {s:fU} {x:Operand} {t:TypeId} {d:TypeDesc} {a:AV} {n:Nat} (ho:o.op=.call ⟨.builtin .len,#[x],#[t]⟩) (hx:ec s x a) (ha:agp a=some n) (ht:P.underlying t=some d)
  (hd:JD d=true):de P o s ⟨.int .i64 (n:Int),[],[]⟩:=
 cd fun {w F O μ K ft act} iJ=>by
  refine ⟨.int .i64 (n:Int),?_,.int _ _⟩
  obtain ⟨A,cap,h⟩:=adL ha (hx iJ)
  cases d<;>simp [JD] at hd
  simp [execOp,ho,resolve,invoke,builtin,Builtin.len_,ct ht,h,goInt]
def Bnd (s:fU) (d:Int) (x:Option Operand) (i:Int):Prop:=(x=none∧i=d)∨∃ y k,x=some y∧ec s y (.int k i)
theorem G4 {x:Value} {k:IntKind} {i:Int} {y:Nat} {c:BoundsCode} (hx:x=.int k i) (h0:0≤i) (h1:i≤y):(Instr.sliceBound x y c).run P w=.ok i.toNat w:=by
 subst hx
 simp only [Instr.sliceBound,asIntOf,Sem.run_bind,Sem.run_pure,Result.andThen_ok,if_pos (And.intro h0 h1)]
theorem JE {s:fU} {a:Act} (hs:SR w F O μ K s ft a) {lo hi:Option Operand} {l h:Int} {N3:Bool} {n cap:Nat} (hl:Bnd s 0 lo l) (hh:Bnd s n hi h)
  (h0:0≤l) (h1:l≤h) (h2:h≤n) (h3:n≤cap):(Instr.sliceBounds N3 n cap (lo.map a.eval) (hi.map a.eval) none).run P w=.ok (l.toNat,h.toNat,cap) w:=by
 have hc:h≤(cap:Int):=by omega
 have hlh:l≤(h.toNat:Int):=by omega
 rcases hh with ⟨rfl,rfl⟩ | ⟨y,k,rfl,hy⟩
 ·rcases hl with ⟨rfl,rfl⟩ | ⟨z,k',rfl,hz⟩
  ·simp [Instr.sliceBounds]
  ·simp [Instr.sliceBounds,G4 (hz hs).dd h0 h1]
 ·rcases hl with ⟨rfl,rfl⟩ | ⟨z,k',rfl,hz⟩
  ·simp [Instr.sliceBounds,G4 (hy hs).dd (Int.le_trans h0 h1) hc]
  ·simp [Instr.sliceBounds,G4 (hy hs).dd (Int.le_trans h0 h1) hc,G4 (hz hs).dd h0 hlh]
def Rk {α:Type} (m:List α) (l h:Int):List α:=(m.take h.toNat).drop l.toNat
theorem Rl (m:List UInt8) (l h:Nat):(⟨⟨m⟩⟩:ByteArray).extract l h=⟨⟨(m.take h).drop l⟩⟩:=by
 apply ByteArray.ext
 rw [ByteArray.data_extract]
 apply Array.ext'
 simp [List.extract,List.drop_take]
theorem N4 {t:TypeId} {x:Value} {lo hi mx:Option Value} (ht:P.underlying t=some .string):(Instr.sliceAt t x lo hi mx).run P w=(Instr.slice t x lo hi mx).run P w:=by
 simp only [Instr.sliceAt,Sem.run_bind,ct ht,Result.andThen_ok]
theorem Gl {t et:TypeId} {x:Value} {lo hi mx:Option Value} (ht:P.underlying t=some (.slice et)):(Instr.sliceAt t x lo hi mx).run P w=(Instr.slice t x lo hi mx).run P w:=by
 simp only [Instr.sliceAt,Sem.run_bind,ct ht,Result.andThen_ok]
theorem VO {o:Oper} {s:fU} {x:Operand} {t:TypeId} {lo hi:Option Operand} {m:List UInt8} {l h:Int} (ho:o.op=.slice t x lo hi none) (hx:ec s x (.str m)) (ht:P.underlying t=some .string)
  (hl:Bnd s 0 lo l) (hh:Bnd s m.length hi h) (h0:0≤l) (h1:l≤h) (h2:h≤m.length):de P o s ⟨.str (Rk m l h),[],[]⟩:=
 cd fun {w F O μ K ft a} hs=>by
  refine ⟨.string ⟨⟨Rk m l h⟩⟩,?_,.str _⟩
  have hb:=JE (P:=P) (N3:=false) hs hl hh h0 h1 h2 (Nat.le_refl _)
  have fL:(⟨⟨m⟩⟩:ByteArray).size=m.length:=rfl
  simp only [execOp,ho,Option.map_none,Sem.run_bind,N4 ht,(hx hs).jD,Instr.slice,ct ht,Result.andThen_ok,fL,Option.isSome_none,Bool.false_eq_true,if_false,Sem.run_pure]
  rw [hb]
  simp only [Result.andThen_ok,Rl,Rk]
theorem XI {o:Oper} {s:fU} {x:Operand} {t et:TypeId} {ti:TypeInfo} {lo hi:Option Operand} {bB n:Nat} {e:Nat→Nat→AV} {l h:Int} (ho:o.op=.slice t x lo hi none) (hx:ec s x (.fs bB n e))
  (ht:P.underlying t=some (.slice et)) (c9:P.info? et=some ti) (fL:ti.size=bB)
  (hl:Bnd s 0 lo l) (hh:Bnd s n hi h) (h0:0≤l) (h1:l≤h) (h2:h≤n):de P o s ⟨.fs bB (h.toNat-l.toNat) (fun i j=>e (l.toNat+i) j),[],[]⟩:=
 cd fun {w F O μ K ft a} hs=>by
  have hv:=hx hs
  generalize Mv:a.eval x=v at hv
  cases hv with
  | fs _ _ _ b o' cap u hF hc hu hv=>
   have hb:=JE (P:=P) (N3:=true) hs hl hh h0 h1 h2 hc
   refine ⟨.slice (if cap=l.toNat then some ⟨b,o',none⟩ else (some ⟨b,o',none⟩:Option Addr).map (·.add (l.toNat*ti.size))) (h.toNat-l.toNat) (cap-l.toNat),?_,?_⟩
   ·simp only [execOp,ho,Option.map_none,Sem.run_bind,Gl ht,Mv,Instr.slice,ct ht,Result.andThen_ok]
    rw [hb]
    simp only [Result.andThen_ok,gY c9,Sem.run_pure]
   ·split
    ·rename_i he
     exact .fs _ _ _ b o' _ (fun i j=>u i j) hF (by omega) (fun i j hi=>by omega) (fun i j hi=>by omega)
    ·simp only [Option.map_some,zU]
     refine .fs _ _ _ b _ _ (fun i j=>u (l.toNat+i) j) hF (by omega) (fun i j hi hj=>?_) (fun i j hi hj=>hv _ _ (by omega) hj)
     have:=hu (l.toNat+i) j (by omega) hj
     rw [fL]
     rw [Nat.add_mul,← Nat.add_assoc] at this
     exact this
  | wv _ _ ad cap=>
   have hb:=JE (P:=P) (N3:=true) (cap:=cap) hs hl hh h0 h1 h2 (Nat.zero_le _)
   have hl0:l.toNat=0:=by omega
   have hh0:h.toNat=0:=by omega
   refine ⟨.slice (if cap=l.toNat then ad else ad.map (·.add (l.toNat*ti.size))) (h.toNat-l.toNat) (cap-l.toNat),?_,?_⟩
   ·simp only [execOp,ho,Option.map_none,Sem.run_bind,Gl ht,Mv,Instr.slice,ct ht,Result.andThen_ok]
    rw [hb]
    simp only [Result.andThen_ok,gY c9,Sem.run_pure]
   ·rw [hl0,hh0];exact .wv _ _ _ _
end Go.Proofs.YtljfmaaadnoggaaGreatDoor.cX
