/- Operations on arrays that stand as values; bytes as a text. No condition. -/
import Derived.Test.YtljfmaaadnoggaaWN
import Derived.Laws.BytesString
namespace Go.Proofs.Ytljfmaaadnoggaa.Abs
open Go Go.RowKit
variable {w w' w'':World} {F F' F'' O O' O'':Nat→Prop} {μ μ' μ'':Nat→Nat} {K K' K'':Nat→Prop} {ft ft':Nat→Nat→Prop} {P:Program} {R:Type}
theorem op_buildArr {o:Oper} {s:SSt} {t et:TypeId} {n:Nat} {ti:TypeInfo} {ps:List (Nat×Operand)} {q:List (Nat×List AV)} {zs r:List AV} (ho:o.op=.build t ⟨ps⟩) (ht:P.underlying t=some (.array n et))
  (hi:P.info? et=some ti) (hz:zeroA P t=some zs) (hq:Parts s ps q) (hr:fillA (fun i=>some (i*ti.size,ti.size)) zs q=some r):OpOk P o s ⟨.agg r,[],[]⟩:=
 opok_value fun {w F O μ K ft a} hs=>by
  obtain ⟨z,hzr,rfl⟩:=zeroA_ok hz
  obtain ⟨us,k1,k2⟩:=fillA_ok hs hq hr (map_ofV z.cells.toList)
  have k1':Instr.fill (fun i=>some (i*ti.size,ti.size)) z.cells ((⟨ps⟩:Array (Nat×Operand)).map fun (i,x)=>(i,a.eval x)).toList=some us:=by
   simpa using k1
  refine ⟨.agg us,?_,.mkAgg k2⟩
  simp only [execOp,ho,Instr.build,Sem.run_bind,hzr,Result.andThen_ok,run_und ht,run_siz hi]
  rw [k1']
  simp
def evBuildArr (P:Program) (s:TSt) (t:TypeId) (ps:List (Nat×Operand)) (κ:TRes→Option R):Option R:=
 match P.underlying t with
 | some (.array _ et)=>match zeroT P t,P.info? et,partsT s ps with
  | some zs,some ti,some q=>match fillA (fun i=>some (i*ti.size,ti.size)) zs q with
   | some r=>κ ⟨.agg r,[],0⟩
   | none=>none
  | _,_,_=>none
 | _=>none
theorem evBuildArr_ok {o:Oper} {s:TSt} {κ:TRes→Option R} {z:R} {t:TypeId} {ps:List (Nat×Operand)} (ho:o.op=.build t ⟨ps⟩) (hs:s.ok) (h:evBuildArr P s t ps κ=some z):EvR P o s κ z:=by
 unfold evBuildArr at h
 split at h
 ·rename_i n et ht
  split at h
  ·rename_i zs ti q hz hi hq
   split at h
   ·rename_i r hr
    obtain ⟨z1,z2⟩:=zeroT_ok hz s.H s.N
    obtain ⟨p1,p2⟩:=partsT_ok hs hq
    have hf:=fillA_map (TA.av s.H) hr
    have e:(q.map fun p=>(p.1,p.2.map (TA.av s.H)))=q.map fun p=>(p.1,avL s.H p.2):=List.map_congr_left fun p _=>by rw [avL_map]
    rw [e] at hf
    have hop:=op_buildArr (P:=P) ho ht hi z1 p1 (r:=avL s.H r) (by rw [avL_map,avL_map];exact hf)
    refine evr_eq h (by simpa only [TA.av] using hop) ?_
    simp only [TA.wf]
    refine wfL_iff.2 fun a ha=>?_
    rcases fillA_mem hr a ha with k | ⟨p,k1,k2⟩
    ·exact wfL_iff.1 z2 a k
    ·exact wfL_iff.1 (p2 p k1) a k2
   ·cases h
  ·cases h
 ·cases h
theorem op_indexArr {o:Oper} {s:SSt} {x y:Operand} {t et:TypeId} {n j:Nat} {k:IntKind} {ti:TypeInfo} {cs:List AV} {r:AV} (ho:o.op=.index t x y) (hx:Opd s x (.agg cs)) (hy:Opd s y (.int k j)) (ht:P.underlying t=some (.array n et)) (hi:P.info? et=some ti) (hj:j < n)
  (hr:partA P et cs (j*ti.size)=some r):OpOk P o s ⟨r,[],[]⟩:=
 opok_value fun {w F O μ K ft a} hs=>by
  obtain ⟨vs,hv,hvs⟩:=(hx hs).agg_inv
  obtain ⟨v,h1,h2⟩:=partA_ok (w:=w) hr hvs
  refine ⟨v,?_,h2⟩
  have hlt:(0:Int)≤(j:Int)∧(j:Int) < (n:Int):=by omega
  simp only [execOp,ho,hv,(hy hs).int_inv,Instr.index,asIntOf,Sem.run_bind,Sem.run_pure,Result.andThen_ok,run_und ht,if_pos hlt,run_siz hi,Int.toNat_natCast,h1]
def evIndexArr (P:Program) (t:TypeId) (x y:TA) (κ:TRes→Option R):Option R:=
 match x,y,P.underlying t with
 | .agg l,.d ⟨.int _,i⟩,some (.array n et)=>match P.info? et with
  | some ti=>splitI i n fun j=>match partT P et l (j*ti.size) with
   | some r=>κ ⟨r,[],0⟩
   | none=>none
  | none=>none
 | _,_,_=>none
theorem partT_ok {t:TypeId} {H:List (Nat×TBlk)} {N off:Nat} {l:List TA} {r:TA} (h:partT P t l off=some r) (hw:wfL H N l):∃ rv,partA P t (avL H l) off=some rv∧Imp rv (r.av H)∧r.wf H N:=by
 unfold partT at h
 split at h
 ·rename_i d i hd hi
  split at h
  ·rename_i ha
   cases h
   refine ⟨.agg (((avL H l).drop off).take i.size),by simp only [partA,hd,hi,ha,if_true],?_,?_⟩
   ·simp only [TA.av,avL_map,List.map_take,List.map_drop]
    exact Imp.refl _
   ·simp only [TA.wf]
    exact wfL_iff.2 fun a ha=>wfL_iff.1 hw a (List.mem_of_mem_drop (List.mem_of_mem_take ha))
  ·rename_i ha
   split at h
   ·rename_i hlt
    cases h
    have hlt':off < l.length:=Nat.le_of_ble_eq_true (by simpa [Nat.blt] using hlt)
    refine ⟨(avL H l).getD off .top,by simp only [partA,hd,hi,if_neg ha];rw [if_pos (by rw [avL_length];exact hlt)],?_,getD_wf hw _⟩
    rw [avL_getD _ _ _ hlt']
    exact Imp.refl _
   ·cases h
 ·cases h
theorem evIndexArr_ok {o:Oper} {s:TSt} {κ:TRes→Option R} {z:R} {x y:Operand} {t:TypeId} (ho:o.op=.index t x y) (hs:s.ok) (h:evIndexArr P t (s.val x) (s.val y) κ=some z):EvR P o s κ z:=by
 unfold evIndexArr at h
 split at h
 ·rename_i l k i n et hx hy ht
  split at h
  ·rename_i ti hi
   obtain ⟨j,hj,e,h2⟩:=splitI_some h
   subst e
   split at h2
   ·rename_i r hr
    have hw:=val_wf hs x
    rw [hx] at hw
    simp only [TA.wf] at hw
    obtain ⟨rv,r1,r2,r3⟩:=partT_ok hr hw
    have h1:Opd s.st x ((TA.agg l).av s.H):=opd_at hx
    have h3:Opd s.st y (.int k j):=opd_at hy
    simp only [TA.av] at h1
    exact evr_val h2 (op_indexArr ho h1 h3 ht hi hj r1) r2 r3
   ·cases h2
  ·cases h
 ·cases h
def bstr (xs:List Int):List UInt8:=xs.map fun n=>UInt8.ofNat n.toNat
theorem flat1_map {m:Nat} {g:Nat→Nat→Value} {xs:List Int} (hm:m=xs.length) (h:∀ i,i < m→g i 0=.int .u8 (xs.getD i 0)):flat 1 m g=xs.map fun n=>.int .u8 n:=by
 apply List.ext_getElem
 ·simp [flat_length,hm]
 ·intro i h1 h2
  have hi:i < m:=by simpa [flat_length] using h1
  have:=h i hi
  simp only [flat,List.getElem_map,List.getElem_range,Nat.div_one,Nat.mod_one,this]
  simp [List.getD,show i < xs.length by omega]
theorem bstr_fold:∀ (xs:List Int) (l:List UInt8),xs.foldl (fun (r:ByteArray) n=>r.push (UInt8.ofNat n.toNat)) ⟨⟨l⟩⟩=⟨⟨l++bstr xs⟩⟩
 | [],l=>by simp [bstr]
 | n::r,l=>by
  rw [List.foldl_cons]
  have e:(ByteArray.push ⟨⟨l⟩⟩ (UInt8.ofNat n.toNat))=⟨⟨l++[UInt8.ofNat n.toNat]⟩⟩:=by
   simp [ByteArray.push]
  rw [e,bstr_fold r]
  simp [bstr]
theorem op_bstr {o:Oper} {s:SSt} {x:Operand} {t u et:TypeId} {xs:List Int} (ho:o.op=.convert t u x) (ht:P.underlying t=some (.slice et)) (he:P.underlying et=some (.int .u8)) (hu:P.underlying u=some .string)
  {f:Nat→Nat→AV} (hf:∀ i,f i 0=.int .u8 (xs.getD i 0)) (hx:Src P s x 1 xs.length f []):OpOk P o s ⟨.str (bstr xs),[],[]⟩:=
 opok_value fun {w F O μ K ft a} hs=>by
  obtain ⟨A,cap,g,S,h1,h2,h3,_,_⟩:=hx w F O μ K ft a hs
  have hg:∀ i,i < xs.length→g i 0=.int .u8 (xs.getD i 0):=fun i hi=>by
   have:=(h3 i 0 hi (by omega)).1
   rw [hf] at this
   cases this with
   | clo _ _ _ h _=>exact h.int_inv
  have hfl:=flat1_map rfl hg
  refine ⟨.string ⟨⟨bstr xs⟩⟩,?_,.str _⟩
  have hb:(Conv.bytesToString (.slice A xs.length cap)).run P w=.ok (.string ⟨⟨bstr xs⟩⟩) w:=by
   cases A with
   | none=>
    have h4:=h2 w rfl
    simp only [Builtin.firstCells,Sem.run_pure] at h4
    have h5:flat 1 xs.length g=[]:=by injection h4 with h6 _;injection h6 with h7;exact h7.symm
    rw [hfl] at h5
    have h6:xs=[]:=by simpa using h5
    subst h6
    simp [Conv.bytesToString,bstr];rfl
   | some A=>
    have h4:=h2 w rfl
    simp only [Builtin.firstCells,Nat.mul_one] at h4
    rw [hfl] at h4
    rw [run_bytesToString w A xs.length cap xs h4]
    have:=bstr_fold xs []
    simp only [List.nil_append] at this
    rw [← this]
    rfl
  simp only [execOp,ho,h1,convert,Sem.run_bind,run_und ht,run_und hu,run_und he,Result.andThen_ok,hb]
  rfl
def evBstr (P:Program) (s:TSt) (t u:TypeId) (x:TA) (κ:TRes→Option R):Option R:=
 match P.underlying t,P.underlying u with
 | some (.slice et),some .string=>match P.underlying et with
  | some (.int .u8)=>match srcT s.H (.int .u8) x with
   | some xs=>κ ⟨.d ⟨.str,bstr xs⟩,[],0⟩
   | none=>none
  | _=>none
 | _,_=>none
theorem evBstr_ok {o:Oper} {s:TSt} {κ:TRes→Option R} {z:R} {x:Operand} {t u:TypeId} (ho:o.op=.convert t u x) (h:evBstr P s t u (s.val x) κ=some z):EvR P o s κ z:=by
 unfold evBstr at h
 split at h
 ·rename_i et ht hu
  split at h
  ·rename_i he
   split at h
   ·rename_i xs hx
    exact evr_d h (op_bstr ho ht he hu (fun _=>rfl) (srcT_ok hx (by decide)))
   ·cases h
  ·cases h
 ·cases h
end Go.Proofs.Ytljfmaaadnoggaa.Abs
