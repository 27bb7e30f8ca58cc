/- Operations on arrays that stand as values; bytes as a text. No condition. -/
import Derived.Test.YtjkbbdldmdajkaaGreatDoorWN
import Derived.Laws.BytesString
namespace Go.Proofs.YtjkbbdldmdajkaaGreatDoor.c_
open Go Go.RowKit
variable {w w' xk:World} {F F' Bs O O' v8:Nat→Prop} {μ bC lG:Nat→Nat} {K K' EF:Nat→Prop} {ft bZ:Nat→Nat→Prop} {P:Program} {R:Type}
theorem T6 {o:Oper} {s:fT} {t et:TypeId} {n:Nat} {ti:TypeInfo} {ps:List (Nat×Operand)} {q:List (Nat×List AV)} {zs r:List AV} (ho:o.op=.build t ⟨ps⟩) (ht:P.underlying t=some (.array n et))
  (hi:P.info? et=some ti) (hz:z_ P t=some zs) (hq:EP s ps q) (hr:oA (fun i=>some (i*ti.size,ti.size)) zs q=some r):dr P o s ⟨.agg r,[],[]⟩:=
 b6 fun {w F O μ K ft a} hs=>by
  obtain ⟨z,X5,rfl⟩:=EM hz;obtain ⟨us,k1,k2⟩:=I8 hs hq hr (Fp z.cells.toList);have YV:Instr.fill (fun i=>some (i*ti.size,ti.size)) z.cells ((⟨ps⟩:Array (Nat×Operand)).map fun (i,x)=>(i,a.eval x)).toList=some us:=by
   simpa using k1
  refine ⟨.agg us,?_,.rP k2⟩;simp only [execOp,ho,Instr.build,Sem.run_bind,X5,Result.andThen_ok,cb ht,gD hi];rw [YV];simp
def H4 (P:Program) (s:bP) (t:TypeId) (ps:List (Nat×Operand)) (κ:cx→Option R):Option R:=
 match P.underlying t with
 | some (.array _ et)=>match Dd P t,P.info? et,HT s ps with
  | some zs,some ti,some q=>match oA (fun i=>some (i*ti.size,ti.size)) zs q with
   | some r=>κ ⟨.agg r,[],0⟩
   | none=>none
  | _,_,_=>none
 | _=>none
theorem Pz {o:Oper} {s:bP} {κ:cx→Option R} {z:R} {t:TypeId} {ps:List (Nat×Operand)} (ho:o.op=.build t ⟨ps⟩) (hs:s.ok) (h:H4 P s t ps κ=some z):wg P o s κ z:=by
 unfold H4 at h;split at h
 ·rename_i n et ht;split at h
  ·rename_i zs ti q hz hi hq;split at h
   ·rename_i r hr;obtain ⟨z1,z2⟩:=qf hz s.H s.N;obtain ⟨p1,p2⟩:=Bv hs hq;have hf:=Bw (TA.av s.H) hr;have e:(q.map fun p=>(p.1,p.2.map (TA.av s.H)))=q.map fun p=>(p.1,dD s.H p.2):=List.map_congr_left fun p _=>by rw [c7]
    rw [e] at hf;have m_:=T6 (P:=P) ho ht hi z1 p1 (r:=dD s.H r) (by rw [c7,c7];exact hf);refine tg h (by simpa only [TA.av] using m_) ?_;simp only [TA.wf];refine db.2 fun a ha=>?_;rcases Ft hr a ha with k | ⟨p,k1,k2⟩
    ·exact db.1 z2 a k
    ·exact db.1 (p2 p k1) a k2
   ·cases h
  ·cases h
 ·cases h
theorem T7 {o:Oper} {s:fT} {x y:Operand} {t et:TypeId} {n j:Nat} {k:IntKind} {ti:TypeInfo} {cs:List AV} {r:AV} (ho:o.op=.index t x y) (hx:ee s x (.agg cs)) (hy:ee s y (.int k j)) (ht:P.underlying t=some (.array n et)) (hi:P.info? et=some ti) (hj:j < n)
  (hr:EL P et cs (j*ti.size)=some r):dr P o s ⟨r,[],[]⟩:=
 b6 fun {w F O μ K ft a} hs=>by
  obtain ⟨vs,hv,zd⟩:=(hx hs).fU;obtain ⟨v,h1,h2⟩:=NA (w:=w) hr zd;refine ⟨v,?_,h2⟩;have dQ:(0:Int)≤(j:Int)∧(j:Int) < (n:Int):=by omega
  simp only [execOp,ho,hv,(hy hs).de,Instr.index,asIntOf,Sem.run_bind,Sem.run_pure,Result.andThen_ok,cb ht,if_pos dQ,gD hi,Int.toNat_natCast,h1]
def H5 (P:Program) (t:TypeId) (x y:TA) (κ:cx→Option R):Option R:=
 match x,y,P.underlying t with
 | .agg l,.d ⟨.int _,i⟩,some (.array n et)=>match P.info? et with
  | some ti=>NV i n fun j=>match TC P et l (j*ti.size) with
   | some r=>κ ⟨r,[],0⟩
   | none=>none
  | none=>none
 | _,_,_=>none
theorem aaS {t:TypeId} {H:List (Nat×aY)} {N off:Nat} {l:List TA} {r:TA} (h:TC P t l off=some r) (hw:im H N l):∃ rv,EL P t (dD H l) off=some rv∧il rv (r.av H)∧r.wf H N:=by
 unfold TC at h;split at h
 ·rename_i d i hd hi;split at h
  ·rename_i ha;cases h;refine ⟨.agg (((dD H l).drop off).take i.size),by simp only [EL,hd,hi,ha,if_true],?_,?_⟩
   ·simp only [TA.av,c7,List.map_take,List.map_drop];exact il.refl _
   ·simp only [TA.wf];exact db.2 fun a ha=>db.1 hw a (List.mem_of_mem_drop (List.mem_of_mem_take ha))
  ·rename_i ha;split at h
   ·rename_i dQ;cases h;have aan:off < l.length:=Nat.le_of_ble_eq_true (by simpa [Nat.blt] using dQ);refine ⟨(dD H l).getD off .top,by simp only [EL,hd,hi,if_neg ha];rw [if_pos (by rw [bB];exact dQ)],?_,Cz hw _⟩;rw [dx _ _ _ aan];exact il.refl _
   ·cases h
 ·cases h
theorem PA {o:Oper} {s:bP} {κ:cx→Option R} {z:R} {x y:Operand} {t:TypeId} (ho:o.op=.index t x y) (hs:s.ok) (h:H5 P t (s.val x) (s.val y) κ=some z):wg P o s κ z:=by
 unfold H5 at h;split at h
 ·rename_i l k i n et hx hy ht;split at h
  ·rename_i ti hi;obtain ⟨j,hj,e,h2⟩:=Lw h;subst e;split at h2
   ·rename_i r hr;have hw:=gf hs x;rw [hx] at hw;simp only [TA.wf] at hw;obtain ⟨rv,r1,r2,r3⟩:=aaS hr hw;have h1:ee s.st x ((TA.agg l).av s.H):=bX hx;have h3:ee s.st y (.int k j):=bX hy;simp only [TA.av] at h1;exact kK h2 (T7 ho h1 h3 ht hi hj r1) r2 r3
   ·cases h2
  ·cases h
 ·cases h
def Dh (xs:List Int):List UInt8:=xs.map fun n=>UInt8.ofNat n.toNat
theorem Yz {m:Nat} {g:Nat→Nat→Value} {xs:List Int} (hm:m=xs.length) (h:∀ i,i < m→g i 0=.int .u8 (xs.getD i 0)):flat 1 m g=xs.map fun n=>.int .u8 n:=by
 apply List.ext_getElem
 ·simp [gb,hm]
 ·intro i h1 h2;have hi:i < m:=by simpa [gb] using h1
  have:=h i hi;simp only [flat,List.getElem_map,List.getElem_range,Nat.div_one,Nat.mod_one,this];simp [List.getD,show i < xs.length by omega]
theorem Qp:∀ (xs:List Int) (l:List UInt8),xs.foldl (fun (r:ByteArray) n=>r.push (UInt8.ofNat n.toNat)) ⟨⟨l⟩⟩=⟨⟨l++Dh xs⟩⟩
 | [],l=>by simp [Dh]
 | n::r,l=>by
  rw [List.foldl_cons];have e:(ByteArray.push ⟨⟨l⟩⟩ (UInt8.ofNat n.toNat))=⟨⟨l++[UInt8.ofNat n.toNat]⟩⟩:=by
   simp [ByteArray.push]
  rw [e,Qp r];simp [Dh]
theorem acA {o:Oper} {s:fT} {x:Operand} {t u et:TypeId} {xs:List Int} (ho:o.op=.convert t u x) (ht:P.underlying t=some (.slice et)) (he:P.underlying et=some (.int .u8)) (hu:P.underlying u=some .string)
  {f:Nat→Nat→AV} (hf:∀ i,f i 0=.int .u8 (xs.getD i 0)) (hx:Src P s x 1 xs.length f []):dr P o s ⟨.str (Dh xs),[],[]⟩:=
 b6 fun {w F O μ K ft a} hs=>by
  obtain ⟨A,cap,g,S,h1,h2,h3,_,_⟩:=hx w F O μ K ft a hs;have hg:∀ i,i < xs.length→g i 0=.int .u8 (xs.getD i 0):=fun i hi=>by
   have:=(h3 i 0 hi (by omega)).1;rw [hf] at this;cases this with
   | IY _ _ _ h _=>exact h.de
  have hfl:=Yz rfl hg;refine ⟨.string ⟨⟨Dh xs⟩⟩,?_,.str _⟩;have hb:(Conv.bytesToString (.slice A xs.length cap)).run P w=.ok (.string ⟨⟨Dh xs⟩⟩) w:=by
   cases A with
   | none=>
    have h4:=h2 w rfl;simp only [Builtin.firstCells,Sem.run_pure] at h4;have h5:flat 1 xs.length g=[]:=by injection h4 with h6 _;injection h6 with h7;exact h7.symm
    rw [hfl] at h5;have h6:xs=[]:=by simpa using h5
    subst h6;simp [Conv.bytesToString,Dh];rfl
   | some A=>
    have h4:=h2 w rfl;simp only [Builtin.firstCells,Nat.mul_one] at h4;rw [hfl] at h4;rw [run_bytesToString w A xs.length cap xs h4];have:=Qp xs [];simp only [List.nil_append] at this;rw [← this];rfl
  simp only [execOp,ho,h1,convert,Sem.run_bind,cb ht,cb hu,cb he,Result.andThen_ok,hb];rfl
def VN (P:Program) (s:bP) (t u:TypeId) (x:TA) (κ:cx→Option R):Option R:=
 match P.underlying t,P.underlying u with
 | some (.slice et),some .string=>match P.underlying et with
  | some (.int .u8)=>match aaz s.H (.int .u8) x with
   | some xs=>κ ⟨.d ⟨.str,Dh xs⟩,[],0⟩
   | none=>none
  | _=>none
 | _,_=>none
theorem Yy {o:Oper} {s:bP} {κ:cx→Option R} {z:R} {x:Operand} {t u:TypeId} (ho:o.op=.convert t u x) (h:VN P s t u (s.val x) κ=some z):wg P o s κ z:=by
 unfold VN at h;split at h
 ·rename_i et ht hu;split at h
  ·rename_i he;split at h
   ·rename_i xs hx;exact oD h (acA ho ht he hu (fun _=>rfl) (RQ hx (by decide)))
   ·cases h
  ·cases h
 ·cases h
end Go.Proofs.YtjkbbdldmdajkaaGreatDoor.c_
