/- Operations on arrays that stand as values; bytes as a text. No condition. -/
import Derived.Test.YtljfmaaadnoggaaGreatDoorWN
import Derived.Laws.BytesString
namespace Go.Proofs.YtljfmaaadnoggaaGreatDoor.cX
open Go Go.RowKit
variable {w w' xW:World} {F F' Cq O O' wx:Nat→Prop} {μ bC kZ:Nat→Nat} {K K' Gg:Nat→Prop} {ft b8:Nat→Nat→Prop} {P:Program} {R:Type}
theorem Wn {o:Oper} {s:fU} {t et:TypeId} {n:Nat} {ti:TypeInfo} {ps:List (Nat×Operand)} {q:List (Nat×List AV)} {zs r:List AV} (ho:o.op=.build t ⟨ps⟩) (ht:P.underlying t=some (.array n et))
  (hi:P.info? et=some ti) (hz:Cs P t=some zs) (hq:Gq s ps q) (hr:pb (fun i=>some (i*ti.size,ti.size)) zs q=some r):de P o s ⟨.agg r,[],[]⟩:=
 cd fun {w F O μ K ft a} hs=>by
  obtain ⟨z,hzr,rfl⟩:=Gm hz
  obtain ⟨us,k1,k2⟩:=K5 hs hq hr (G5 z.cells.toList)
  have k1':Instr.fill (fun i=>some (i*ti.size,ti.size)) z.cells ((⟨ps⟩:Array (Nat×Operand)).map fun (i,x)=>(i,a.eval x)).toList=some us:=by
   simpa using k1
  refine ⟨.agg us,?_,.rE k2⟩
  simp only [execOp,ho,Instr.build,Sem.run_bind,hzr,Result.andThen_ok,ct ht,gY hi]
  rw [k1']
  simp
def JQ (P:Program) (s:bQ) (t:TypeId) (ps:List (Nat×Operand)) (κ:cE→Option R):Option R:=
 match P.underlying t with
 | some (.array _ et)=>match Gv P t,P.info? et,JK s ps with
  | some zs,some ti,some q=>match pb (fun i=>some (i*ti.size,ti.size)) zs q with
   | some r=>κ ⟨.agg r,[],0⟩
   | none=>none
  | _,_,_=>none
 | _=>none
theorem Rt {o:Oper} {s:bQ} {κ:cE→Option R} {z:R} {t:TypeId} {ps:List (Nat×Operand)} (ho:o.op=.build t ⟨ps⟩) (hs:s.ok) (h:JQ P s t ps κ=some z):xY P o s κ z:=by
 unfold JQ at h
 split at h
 ·rename_i n et ht
  split at h
  ·rename_i zs ti q hz hi hq
   split at h
   ·rename_i r hr
    obtain ⟨z1,z2⟩:=tu hz s.H s.N
    obtain ⟨p1,p2⟩:=Cv hs hq
    have hf:=Cw (TA.av s.H) hr
    have e:(q.map fun p=>(p.1,p.2.map (TA.av s.H)))=q.map fun p=>(p.1,dU s.H p.2):=List.map_congr_left fun p _=>by rw [cV]
    rw [e] at hf
    have nA:=Wn (P:=P) ho ht hi z1 p1 (r:=dU s.H r) (by rw [cV,cV];exact hf)
    refine tr h (by simpa only [TA.av] using nA) ?_
    simp only [TA.wf]
    refine c8.2 fun a ha=>?_
    rcases G8 hr a ha with k | ⟨p,k1,k2⟩
    ·exact c8.1 z2 a k
    ·exact c8.1 (p2 p k1) a k2
   ·cases h
  ·cases h
 ·cases h
theorem Wo {o:Oper} {s:fU} {x y:Operand} {t et:TypeId} {n j:Nat} {k:IntKind} {ti:TypeInfo} {cs:List AV} {r:AV} (ho:o.op=.index t x y) (hx:ec s x (.agg cs)) (hy:ec s y (.int k j)) (ht:P.underlying t=some (.array n et)) (hi:P.info? et=some ti) (hj:j < n)
  (hr:Gk P et cs (j*ti.size)=some r):de P o s ⟨r,[],[]⟩:=
 cd fun {w F O μ K ft a} hs=>by
  obtain ⟨vs,hv,CN⟩:=(hx hs).fK
  obtain ⟨v,h1,h2⟩:=PI (w:=w) hr CN
  refine ⟨v,?_,h2⟩
  have dQ:(0:Int)≤(j:Int)∧(j:Int) < (n:Int):=by omega
  simp only [execOp,ho,hv,(hy hs).dd,Instr.index,asIntOf,Sem.run_bind,Sem.run_pure,Result.andThen_ok,ct ht,if_pos dQ,gY hi,Int.toNat_natCast,h1]
def JR (P:Program) (t:TypeId) (x y:TA) (κ:cE→Option R):Option R:=
 match x,y,P.underlying t with
 | .agg l,.d ⟨.int _,i⟩,some (.array n et)=>match P.info? et with
  | some ti=>P3 i n fun j=>match VY P et l (j*ti.size) with
   | some r=>κ ⟨r,[],0⟩
   | none=>none
  | none=>none
 | _,_,_=>none
theorem acP {t:TypeId} {H:List (Nat×aY)} {N off:Nat} {l:List TA} {r:TA} (h:VY P t l off=some r) (hw:iw H N l):∃ rv,Gk P t (dU H l) off=some rv∧iu rv (r.av H)∧r.wf H N:=by
 unfold VY at h
 split at h
 ·rename_i d i hd hi
  split at h
  ·rename_i ha
   cases h
   refine ⟨.agg (((dU H l).drop off).take i.size),by simp only [Gk,hd,hi,ha,if_true],?_,?_⟩
   ·simp only [TA.av,cV,List.map_take,List.map_drop]
    exact iu.refl _
   ·simp only [TA.wf]
    exact c8.2 fun a ha=>c8.1 hw a (List.mem_of_mem_drop (List.mem_of_mem_take ha))
  ·rename_i ha
   split at h
   ·rename_i dQ
    cases h
    have ach:off < l.length:=Nat.le_of_ble_eq_true (by simpa [Nat.blt] using dQ)
    refine ⟨(dU H l).getD off .top,by simp only [Gk,hd,hi,if_neg ha];rw [if_pos (by rw [bI];exact dQ)],?_,Dz hw _⟩
    rw [dH _ _ _ ach]
    exact iu.refl _
   ·cases h
 ·cases h
theorem Ru {o:Oper} {s:bQ} {κ:cE→Option R} {z:R} {x y:Operand} {t:TypeId} (ho:o.op=.index t x y) (hs:s.ok) (h:JR P t (s.val x) (s.val y) κ=some z):xY P o s κ z:=by
 unfold JR at h
 split at h
 ·rename_i l k i n et hx hy ht
  split at h
  ·rename_i ti hi
   obtain ⟨j,hj,e,h2⟩:=NB h
   subst e
   split at h2
   ·rename_i r hr
    have hw:=gy hs x
    rw [hx] at hw
    simp only [TA.wf] at hw
    obtain ⟨rv,r1,r2,r3⟩:=acP hr hw
    have h1:ec s.st x ((TA.agg l).av s.H):=b9 hx
    have h3:ec s.st y (.int k j):=b9 hy
    simp only [TA.av] at h1
    exact kr h2 (Wo ho h1 h3 ht hi hj r1) r2 r3
   ·cases h2
  ·cases h
 ·cases h
def Em (xs:List Int):List UInt8:=xs.map fun n=>UInt8.ofNat n.toNat
theorem aa2 {m:Nat} {g:Nat→Nat→Value} {xs:List Int} (hm:m=xs.length) (h:∀ i,i < m→g i 0=.int .u8 (xs.getD i 0)):flat 1 m g=xs.map fun n=>.int .u8 n:=by
 apply List.ext_getElem
 ·simp [fT,hm]
 ·intro i h1 h2
  have hi:i < m:=by simpa [fT] using h1
  have:=h i hi
  simp only [flat,List.getElem_map,List.getElem_range,Nat.div_one,Nat.mod_one,this]
  simp [List.getD,show i < xs.length by omega]
theorem Sv:∀ (xs:List Int) (l:List UInt8),xs.foldl (fun (r:ByteArray) n=>r.push (UInt8.ofNat n.toNat)) ⟨⟨l⟩⟩=⟨⟨l++Em xs⟩⟩
 | [],l=>by simp [Em]
 | n::r,l=>by
  rw [List.foldl_cons]
  have e:(ByteArray.push ⟨⟨l⟩⟩ (UInt8.ofNat n.toNat))=⟨⟨l++[UInt8.ofNat n.toNat]⟩⟩:=by
   simp [ByteArray.push]
  rw [e,Sv r]
  simp [Em]
theorem aer {o:Oper} {s:fU} {x:Operand} {t u et:TypeId} {xs:List Int} (ho:o.op=.convert t u x) (ht:P.underlying t=some (.slice et)) (he:P.underlying et=some (.int .u8)) (hu:P.underlying u=some .string)
  {f:Nat→Nat→AV} (hf:∀ i,f i 0=.int .u8 (xs.getD i 0)) (hx:Src P s x 1 xs.length f []):de P o s ⟨.str (Em xs),[],[]⟩:=
 cd fun {w F O μ K ft a} hs=>by
  obtain ⟨A,cap,g,S,h1,h2,h3,_,_⟩:=hx w F O μ K ft a hs
  have hg:∀ i,i < xs.length→g i 0=.int .u8 (xs.getD i 0):=fun i hi=>by
   have:=(h3 i 0 hi (by omega)).1
   rw [hf] at this
   cases this with
   | KR _ _ _ h _=>exact h.dd
  have hfl:=aa2 rfl hg
  refine ⟨.string ⟨⟨Em xs⟩⟩,?_,.str _⟩
  have hb:(Conv.bytesToString (.slice A xs.length cap)).run P w=.ok (.string ⟨⟨Em xs⟩⟩) w:=by
   cases A with
   | none=>
    have h4:=h2 w rfl
    simp only [Builtin.firstCells,Sem.run_pure] at h4
    have h5:flat 1 xs.length g=[]:=by injection h4 with h6 _;injection h6 with h7;exact h7.symm
    rw [hfl] at h5
    have h6:xs=[]:=by simpa using h5
    subst h6
    simp [Conv.bytesToString,Em];rfl
   | some A=>
    have h4:=h2 w rfl
    simp only [Builtin.firstCells,Nat.mul_one] at h4
    rw [hfl] at h4
    rw [run_bytesToString w A xs.length cap xs h4]
    have:=Sv xs []
    simp only [List.nil_append] at this
    rw [← this]
    rfl
  simp only [execOp,ho,h1,convert,Sem.run_bind,ct ht,ct hu,ct he,Result.andThen_ok,hb]
  rfl
def Yg (P:Program) (s:bQ) (t u:TypeId) (x:TA) (κ:cE→Option R):Option R:=
 match P.underlying t,P.underlying u with
 | some (.slice et),some .string=>match P.underlying et with
  | some (.int .u8)=>match acv s.H (.int .u8) x with
   | some xs=>κ ⟨.d ⟨.str,Em xs⟩,[],0⟩
   | none=>none
  | _=>none
 | _,_=>none
theorem aa1 {o:Oper} {s:bQ} {κ:cE→Option R} {z:R} {x:Operand} {t u:TypeId} (ho:o.op=.convert t u x) (h:Yg P s t u (s.val x) κ=some z):xY P o s κ z:=by
 unfold Yg at h
 split at h
 ·rename_i et ht hu
  split at h
  ·rename_i he
   split at h
   ·rename_i xs hx
    exact oa h (aer ho ht he hu (fun _=>rfl) (Ua hx (by decide)))
   ·cases h
  ·cases h
 ·cases h
end Go.Proofs.YtljfmaaadnoggaaGreatDoor.cX
