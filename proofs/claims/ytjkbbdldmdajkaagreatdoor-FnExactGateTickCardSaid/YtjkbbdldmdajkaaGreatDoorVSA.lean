/- Operations on arrays that stand as values; bytes as a text. No condition. -/
import Derived.Test.YtjkbbdldmdajkaaGreatDoorWN
import Derived.Laws.BytesString
namespace Go.Proofs.YtjkbbdldmdajkaaGreatDoor.c_
open Go Go.RowKit
variable {w w' xh:World} {F F' Bn O O' vW:Nat→Prop} {μ bD lF:Nat→Nat} {K K' EB:Nat→Prop} {ft bY:Nat→Nat→Prop} {P:Program} {R:Type}
theorem T3 {o:Oper} {s:fU} {t et:TypeId} {n:Nat} {ti:TypeInfo} {ps:List (Nat×Operand)} {q:List (Nat×List AV)} {zs r:List AV} (ho:o.op=.build t ⟨ps⟩) (ht:P.underlying t=some (.array n et))
  (hi:P.info? et=some ti) (hz:z6 P t=some zs) (hq:EL s ps q) (hr:oz (fun i=>some (i*ti.size,ti.size)) zs q=some r):dr P o s ⟨.agg r,[],[]⟩:=
 b6 fun {w F O μ K ft a} hs=>by
  obtain ⟨z,X2,rfl⟩:=EI hz;obtain ⟨us,k1,k2⟩:=I6 hs hq hr (Fg z.cells.toList);have YS:Instr.fill (fun i=>some (i*ti.size,ti.size)) z.cells ((⟨ps⟩:Array (Nat×Operand)).map fun (i,x)=>(i,a.eval x)).toList=some us:=by
   simpa using k1
  refine ⟨.agg us,?_,.rO k2⟩;simp only [execOp,ho,Instr.build,Sem.run_bind,X2,Result.andThen_ok,cb ht,gB hi];rw [YS];simp
def HW (P:Program) (s:bP) (t:TypeId) (ps:List (Nat×Operand)) (κ:cx→Option R):Option R:=
 match P.underlying t with
 | some (.array _ et)=>match C9 P t,P.info? et,HO s ps with
  | some zs,some ti,some q=>match oz (fun i=>some (i*ti.size,ti.size)) zs q with
   | some r=>κ ⟨.agg r,[],0⟩
   | none=>none
  | _,_,_=>none
 | _=>none
theorem Pw {o:Oper} {s:bP} {κ:cx→Option R} {z:R} {t:TypeId} {ps:List (Nat×Operand)} (ho:o.op=.build t ⟨ps⟩) (hs:s.ok) (h:HW P s t ps κ=some z):wa P o s κ z:=by
 unfold HW at h;split at h
 ·rename_i n et ht;split at h
  ·rename_i zs ti q hz hi hq;split at h
   ·rename_i r hr;obtain ⟨z1,z2⟩:=qd hz s.H s.N;obtain ⟨p1,p2⟩:=Bs hs hq;have hf:=Bt (TA.av s.H) hr;have e:(q.map fun p=>(p.1,p.2.map (TA.av s.H)))=q.map fun p=>(p.1,er s.H p.2):=List.map_congr_left fun p _=>by rw [c7]
    rw [e] at hf;have m9:=T3 (P:=P) ho ht hi z1 p1 (r:=er s.H r) (by rw [c7,c7];exact hf);refine tf h (by simpa only [TA.av] using m9) ?_;simp only [TA.wf];refine dg.2 fun a ha=>?_;rcases Fk hr a ha with k | ⟨p,k1,k2⟩
    ·exact dg.1 z2 a k
    ·exact dg.1 (p2 p k1) a k2
   ·cases h
  ·cases h
 ·cases h
theorem T4 {o:Oper} {s:fU} {x y:Operand} {t et:TypeId} {n j:Nat} {k:IntKind} {ti:TypeInfo} {cs:List AV} {r:AV} (ho:o.op=.index t x y) (hx:ee s x (.agg cs)) (hy:ee s y (.int k j)) (ht:P.underlying t=some (.array n et)) (hi:P.info? et=some ti) (hj:j < n)
  (hr:EH P et cs (j*ti.size)=some r):dr P o s ⟨r,[],[]⟩:=
 b6 fun {w F O μ K ft a} hs=>by
  obtain ⟨vs,hv,BM⟩:=(hx hs).fS;obtain ⟨v,h1,h2⟩:=Nz (w:=w) hr BM;refine ⟨v,?_,h2⟩;have dT:(0:Int)≤(j:Int)∧(j:Int) < (n:Int):=by omega
  simp only [execOp,ho,hv,(hy hs).dd,Instr.index,asIntOf,Sem.run_bind,Sem.run_pure,Result.andThen_ok,cb ht,if_pos dT,gB hi,Int.toNat_natCast,h1]
def HX (P:Program) (t:TypeId) (x y:TA) (κ:cx→Option R):Option R:=
 match x,y,P.underlying t with
 | .agg l,.d ⟨.int _,i⟩,some (.array n et)=>match P.info? et with
  | some ti=>NU i n fun j=>match Tx P et l (j*ti.size) with
   | some r=>κ ⟨r,[],0⟩
   | none=>none
  | none=>none
 | _,_,_=>none
theorem aaP {t:TypeId} {H:List (Nat×aY)} {N off:Nat} {l:List TA} {r:TA} (h:Tx P t l off=some r) (hw:iz H N l):∃ rv,EH P t (er H l) off=some rv∧ik rv (r.av H)∧r.wf H N:=by
 unfold Tx at h;split at h
 ·rename_i d i hd hi;split at h
  ·rename_i ha;cases h;refine ⟨.agg (((er H l).drop off).take i.size),by simp only [EH,hd,hi,ha,if_true],?_,?_⟩
   ·simp only [TA.av,c7,List.map_take,List.map_drop];exact ik.refl _
   ·simp only [TA.wf];exact dg.2 fun a ha=>dg.1 hw a (List.mem_of_mem_drop (List.mem_of_mem_take ha))
  ·rename_i ha;split at h
   ·rename_i dT;cases h;have aaj:off < l.length:=Nat.le_of_ble_eq_true (by simpa [Nat.blt] using dT);refine ⟨(er H l).getD off .top,by simp only [EH,hd,hi,if_neg ha];rw [if_pos (by rw [bG];exact dT)],?_,Cy hw _⟩;rw [dO _ _ _ aaj];exact ik.refl _
   ·cases h
 ·cases h
theorem Px {o:Oper} {s:bP} {κ:cx→Option R} {z:R} {x y:Operand} {t:TypeId} (ho:o.op=.index t x y) (hs:s.ok) (h:HX P t (s.val x) (s.val y) κ=some z):wa P o s κ z:=by
 unfold HX at h;split at h
 ·rename_i l k i n et hx hy ht;split at h
  ·rename_i ti hi;obtain ⟨j,hj,e,h2⟩:=Lv h;subst e;split at h2
   ·rename_i r hr;have hw:=gH hs x;rw [hx] at hw;simp only [TA.wf] at hw;obtain ⟨rv,r1,r2,r3⟩:=aaP hr hw;have h1:ee s.st x ((TA.agg l).av s.H):=bX hx;have h3:ee s.st y (.int k j):=bX hy;simp only [TA.av] at h1;exact kJ h2 (T4 ho h1 h3 ht hi hj r1) r2 r3
   ·cases h2
  ·cases h
 ·cases h
def Dc (xs:List Int):List UInt8:=xs.map fun n=>UInt8.ofNat n.toNat
theorem Yw {m:Nat} {g:Nat→Nat→Value} {xs:List Int} (hm:m=xs.length) (h:∀ i,i < m→g i 0=.int .u8 (xs.getD i 0)):flat 1 m g=xs.map fun n=>.int .u8 n:=by
 apply List.ext_getElem
 ·simp [ga,hm]
 ·intro i h1 h2;have hi:i < m:=by simpa [ga] using h1
  have:=h i hi;simp only [flat,List.getElem_map,List.getElem_range,Nat.div_one,Nat.mod_one,this];simp [List.getD,show i < xs.length by omega]
theorem Ql:∀ (xs:List Int) (l:List UInt8),xs.foldl (fun (r:ByteArray) n=>r.push (UInt8.ofNat n.toNat)) ⟨⟨l⟩⟩=⟨⟨l++Dc xs⟩⟩
 | [],l=>by simp [Dc]
 | n::r,l=>by
  rw [List.foldl_cons];have e:(ByteArray.push ⟨⟨l⟩⟩ (UInt8.ofNat n.toNat))=⟨⟨l++[UInt8.ofNat n.toNat]⟩⟩:=by
   simp [ByteArray.push]
  rw [e,Ql r];simp [Dc]
theorem acx {o:Oper} {s:fU} {x:Operand} {t u et:TypeId} {xs:List Int} (ho:o.op=.convert t u x) (ht:P.underlying t=some (.slice et)) (he:P.underlying et=some (.int .u8)) (hu:P.underlying u=some .string)
  {f:Nat→Nat→AV} (hf:∀ i,f i 0=.int .u8 (xs.getD i 0)) (hx:Src P s x 1 xs.length f []):dr P o s ⟨.str (Dc xs),[],[]⟩:=
 b6 fun {w F O μ K ft a} hs=>by
  obtain ⟨A,cap,g,S,h1,h2,h3,_,_⟩:=hx w F O μ K ft a hs;have hg:∀ i,i < xs.length→g i 0=.int .u8 (xs.getD i 0):=fun i hi=>by
   have:=(h3 i 0 hi (by omega)).1;rw [hf] at this;cases this with
   | IW _ _ _ h _=>exact h.dd
  have hfl:=Yw rfl hg;refine ⟨.string ⟨⟨Dc xs⟩⟩,?_,.str _⟩;have hb:(Conv.bytesToString (.slice A xs.length cap)).run P w=.ok (.string ⟨⟨Dc xs⟩⟩) w:=by
   cases A with
   | none=>
    have h4:=h2 w rfl;simp only [Builtin.firstCells,Sem.run_pure] at h4;have h5:flat 1 xs.length g=[]:=by injection h4 with h6 _;injection h6 with h7;exact h7.symm
    rw [hfl] at h5;have h6:xs=[]:=by simpa using h5
    subst h6;simp [Conv.bytesToString,Dc];rfl
   | some A=>
    have h4:=h2 w rfl;simp only [Builtin.firstCells,Nat.mul_one] at h4;rw [hfl] at h4;rw [run_bytesToString w A xs.length cap xs h4];have:=Ql xs [];simp only [List.nil_append] at this;rw [← this];rfl
  simp only [execOp,ho,h1,convert,Sem.run_bind,cb ht,cb hu,cb he,Result.andThen_ok,hb];rfl
def VK (P:Program) (s:bP) (t u:TypeId) (x:TA) (κ:cx→Option R):Option R:=
 match P.underlying t,P.underlying u with
 | some (.slice et),some .string=>match P.underlying et with
  | some (.int .u8)=>match aav s.H (.int .u8) x with
   | some xs=>κ ⟨.d ⟨.str,Dc xs⟩,[],0⟩
   | none=>none
  | _=>none
 | _,_=>none
theorem Yv {o:Oper} {s:bP} {κ:cx→Option R} {z:R} {x:Operand} {t u:TypeId} (ho:o.op=.convert t u x) (h:VK P s t u (s.val x) κ=some z):wa P o s κ z:=by
 unfold VK at h;split at h
 ·rename_i et ht hu;split at h
  ·rename_i he;split at h
   ·rename_i xs hx;exact oC h (acx ho ht he hu (fun _=>rfl) (RO hx (by decide)))
   ·cases h
  ·cases h
 ·cases h
end Go.Proofs.YtjkbbdldmdajkaaGreatDoor.c_
