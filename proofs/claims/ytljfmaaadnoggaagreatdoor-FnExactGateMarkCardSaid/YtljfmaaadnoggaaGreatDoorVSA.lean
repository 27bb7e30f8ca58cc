/- Operations on arrays that stand as values; bytes as a text. No condition. -/
import Derived.Test.YtljfmaaadnoggaaGreatDoorWN
import Derived.Laws.BytesString
namespace Go.Proofs.YtljfmaaadnoggaaGreatDoor.cU
open Go Go.RowKit
variable {w w' vP:World} {F F' Am O O' ux:Nat→Prop} {μ bB jV:Nat→Nat} {K K' DQ:Nat→Prop} {ft b7:Nat→Nat→Prop} {P:Program} {R:Type}
theorem Ts {o:Oper} {s:fy} {t et:TypeId} {n:Nat} {ti:TypeInfo} {ps:List (Nat×Operand)} {q:List (Nat×List AV)} {zs r:List AV} (ho:o.op=.build t ⟨ps⟩) (ht:P.underlying t=some (.array n et))
  (hi:P.info? et=some ti) (hz:Ao P t=some zs) (hq:DY s ps q) (hr:nS (fun i=>some (i*ti.size,ti.size)) zs q=some r):db P o s ⟨.agg r,[],[]⟩:=
 bZ fun {w F O μ K ft a} hs=>by
  obtain ⟨z,Xm,rfl⟩:=DW hz
  obtain ⟨us,k1,k2⟩:=IJ hs hq hr (Ew z.cells.toList)
  have Ye:Instr.fill (fun i=>some (i*ti.size,ti.size)) z.cells ((⟨ps⟩:Array (Nat×Operand)).map fun (i,x)=>(i,a.eval x)).toList=some us:=by
   simpa using k1
  refine ⟨.agg us,?_,.pY k2⟩
  simp only [execOp,ho,Instr.build,Sem.run_bind,Xm,Result.andThen_ok,cl ht,gy hi]
  rw [Ye]
  simp
def Hr (P:Program) (s:bK) (t:TypeId) (ps:List (Nat×Operand)) (κ:cC→Option R):Option R:=
 match P.underlying t with
 | some (.array _ et)=>match D5 P t,P.info? et,Hk s ps with
  | some zs,some ti,some q=>match nS (fun i=>some (i*ti.size,ti.size)) zs q with
   | some r=>κ ⟨.agg r,[],0⟩
   | none=>none
  | _,_,_=>none
 | _=>none
theorem OV {o:Oper} {s:bK} {κ:cC→Option R} {z:R} {t:TypeId} {ps:List (Nat×Operand)} (ho:o.op=.build t ⟨ps⟩) (hs:s.ok) (h:Hr P s t ps κ=some z):we P o s κ z:=by
 unfold Hr at h
 split at h
 ·rename_i n et ht
  split at h
  ·rename_i zs ti q hz hi hq
   split at h
   ·rename_i r hr
    obtain ⟨z1,z2⟩:=rJ hz s.H s.N
    obtain ⟨p1,p2⟩:=Ar hs hq
    have hf:=As (TA.av s.H) hr
    have e:(q.map fun p=>(p.1,p.2.map (TA.av s.H)))=q.map fun p=>(p.1,dJ s.H p.2):=List.map_congr_left fun p _=>by rw [cR]
    rw [e] at hf
    have mO:=Ts (P:=P) ho ht hi z1 p1 (r:=dJ s.H r) (by rw [cR,cR];exact hf)
    refine rH h (by simpa only [TA.av] using mO) ?_
    simp only [TA.wf]
    refine cZ.2 fun a ha=>?_
    rcases Ez hr a ha with k | ⟨p,k1,k2⟩
    ·exact cZ.1 z2 a k
    ·exact cZ.1 (p2 p k1) a k2
   ·cases h
  ·cases h
 ·cases h
theorem Tt {o:Oper} {s:fy} {x y:Operand} {t et:TypeId} {n j:Nat} {k:IntKind} {ti:TypeInfo} {cs:List AV} {r:AV} (ho:o.op=.index t x y) (hx:dT s x (.agg cs)) (hy:dT s y (.int k j)) (ht:P.underlying t=some (.array n et)) (hi:P.info? et=some ti) (hj:j < n)
  (hr:DU P et cs (j*ti.size)=some r):db P o s ⟨r,[],[]⟩:=
 bZ fun {w F O μ K ft a} hs=>by
  obtain ⟨vs,hv,AM⟩:=(hx hs).fh
  obtain ⟨v,h1,h2⟩:=M6 (w:=w) hr AM
  refine ⟨v,?_,h2⟩
  have dL:(0:Int)≤(j:Int)∧(j:Int) < (n:Int):=by omega
  simp only [execOp,ho,hv,(hy hs).c_,Instr.index,asIntOf,Sem.run_bind,Sem.run_pure,Result.andThen_ok,cl ht,if_pos dL,gy hi,Int.toNat_natCast,h1]
def Hs (P:Program) (t:TypeId) (x y:TA) (κ:cC→Option R):Option R:=
 match x,y,P.underlying t with
 | .agg l,.d ⟨.int _,i⟩,some (.array n et)=>match P.info? et with
  | some ti=>Nq i n fun j=>match SY P et l (j*ti.size) with
   | some r=>κ ⟨r,[],0⟩
   | none=>none
  | none=>none
 | _,_,_=>none
theorem ZY {t:TypeId} {H:List (Nat×aW)} {N off:Nat} {l:List TA} {r:TA} (h:SY P t l off=some r) (hw:gQ H N l):∃ rv,DU P t (dJ H l) off=some rv∧gZ rv (r.av H)∧r.wf H N:=by
 unfold SY at h
 split at h
 ·rename_i d i hd hi
  split at h
  ·rename_i ha
   cases h
   refine ⟨.agg (((dJ H l).drop off).take i.size),by simp only [DU,hd,hi,ha,if_true],?_,?_⟩
   ·simp only [TA.av,cR,List.map_take,List.map_drop]
    exact gZ.refl _
   ·simp only [TA.wf]
    exact cZ.2 fun a ha=>cZ.1 hw a (List.mem_of_mem_drop (List.mem_of_mem_take ha))
  ·rename_i ha
   split at h
   ·rename_i dL
    cases h
    have Zm:off < l.length:=Nat.le_of_ble_eq_true (by simpa [Nat.blt] using dL)
    refine ⟨(dJ H l).getD off .top,by simp only [DU,hd,hi,if_neg ha];rw [if_pos (by rw [bE];exact dL)],?_,Bs hw _⟩
    rw [dy _ _ _ Zm]
    exact gZ.refl _
   ·cases h
 ·cases h
theorem OW {o:Oper} {s:bK} {κ:cC→Option R} {z:R} {x y:Operand} {t:TypeId} (ho:o.op=.index t x y) (hs:s.ok) (h:Hs P t (s.val x) (s.val y) κ=some z):we P o s κ z:=by
 unfold Hs at h
 split at h
 ·rename_i l k i n et hx hy ht
  split at h
  ·rename_i ti hi
   obtain ⟨j,hj,e,h2⟩:=Li h
   subst e
   split at h2
   ·rename_i r hr
    have hw:=fX hs x
    rw [hx] at hw
    simp only [TA.wf] at hw
    obtain ⟨rv,r1,r2,r3⟩:=ZY hr hw
    have h1:dT s.st x ((TA.agg l).av s.H):=b8 hx
    have h3:dT s.st y (.int k j):=b8 hy
    simp only [TA.av] at h1
    exact jv h2 (Tt ho h1 h3 ht hi hj r1) r2 r3
   ·cases h2
  ·cases h
 ·cases h
def Cc (xs:List Int):List UInt8:=xs.map fun n=>UInt8.ofNat n.toNat
theorem XR {m:Nat} {g:Nat→Nat→Value} {xs:List Int} (hm:m=xs.length) (h:∀ i,i < m→g i 0=.int .u8 (xs.getD i 0)):flat 1 m g=xs.map fun n=>.int .u8 n:=by
 apply List.ext_getElem
 ·simp [fx,hm]
 ·intro i h1 h2
  have hi:i < m:=by simpa [fx] using h1
  have:=h i hi
  simp only [flat,List.getElem_map,List.getElem_range,Nat.div_one,Nat.mod_one,this]
  simp [List.getD,show i < xs.length by omega]
theorem PZ:∀ (xs:List Int) (l:List UInt8),xs.foldl (fun (r:ByteArray) n=>r.push (UInt8.ofNat n.toNat)) ⟨⟨l⟩⟩=⟨⟨l++Cc xs⟩⟩
 | [],l=>by simp [Cc]
 | n::r,l=>by
  rw [List.foldl_cons]
  have e:(ByteArray.push ⟨⟨l⟩⟩ (UInt8.ofNat n.toNat))=⟨⟨l++[UInt8.ofNat n.toNat]⟩⟩:=by
   simp [ByteArray.push]
  rw [e,PZ r]
  simp [Cc]
theorem abA {o:Oper} {s:fy} {x:Operand} {t u et:TypeId} {xs:List Int} (ho:o.op=.convert t u x) (ht:P.underlying t=some (.slice et)) (he:P.underlying et=some (.int .u8)) (hu:P.underlying u=some .string)
  {f:Nat→Nat→AV} (hf:∀ i,f i 0=.int .u8 (xs.getD i 0)) (hx:Src P s x 1 xs.length f []):db P o s ⟨.str (Cc xs),[],[]⟩:=
 bZ fun {w F O μ K ft a} hs=>by
  obtain ⟨A,cap,g,S,h1,h2,h3,_,_⟩:=hx w F O μ K ft a hs
  have hg:∀ i,i < xs.length→g i 0=.int .u8 (xs.getD i 0):=fun i hi=>by
   have:=(h3 i 0 hi (by omega)).1
   rw [hf] at this
   cases this with
   | Iy _ _ _ h _=>exact h.c_
  have hfl:=XR rfl hg
  refine ⟨.string ⟨⟨Cc xs⟩⟩,?_,.str _⟩
  have hb:(Conv.bytesToString (.slice A xs.length cap)).run P w=.ok (.string ⟨⟨Cc xs⟩⟩) w:=by
   cases A with
   | none=>
    have h4:=h2 w rfl
    simp only [Builtin.firstCells,Sem.run_pure] at h4
    have h5:flat 1 xs.length g=[]:=by injection h4 with h6 _;injection h6 with h7;exact h7.symm
    rw [hfl] at h5
    have h6:xs=[]:=by simpa using h5
    subst h6
    simp [Conv.bytesToString,Cc];rfl
   | some A=>
    have h4:=h2 w rfl
    simp only [Builtin.firstCells,Nat.mul_one] at h4
    rw [hfl] at h4
    rw [run_bytesToString w A xs.length cap xs h4]
    have:=PZ xs []
    simp only [List.nil_append] at this
    rw [← this]
    rfl
  simp only [execOp,ho,h1,convert,Sem.run_bind,cl ht,cl hu,cl he,Result.andThen_ok,hb]
  rfl
def Vf (P:Program) (s:bK) (t u:TypeId) (x:TA) (κ:cC→Option R):Option R:=
 match P.underlying t,P.underlying u with
 | some (.slice et),some .string=>match P.underlying et with
  | some (.int .u8)=>match ZC s.H (.int .u8) x with
   | some xs=>κ ⟨.d ⟨.str,Cc xs⟩,[],0⟩
   | none=>none
  | _=>none
 | _,_=>none
theorem XQ {o:Oper} {s:bK} {κ:cC→Option R} {z:R} {x:Operand} {t u:TypeId} (ho:o.op=.convert t u x) (h:Vf P s t u (s.val x) κ=some z):we P o s κ z:=by
 unfold Vf at h
 split at h
 ·rename_i et ht hu
  split at h
  ·rename_i he
   split at h
   ·rename_i xs hx
    exact mM h (abA ho ht he hu (fun _=>rfl) (Ri hx (by decide)))
   ·cases h
  ·cases h
 ·cases h
end Go.Proofs.YtljfmaaadnoggaaGreatDoor.cU
