/- What marks, and what reads the marks: loops over lists; the decimal text of a mark. No condition. -/
import Derived.Test.YtjkbbdldmdajkaaGreatDoorPvA
namespace Go.Proofs.YtjkbbdldmdajkaaGreatDoor.Pu
open Go Go.RowKit Go.Proofs.YtjkbbdldmdajkaaGreatDoor.c_ Go.Proofs.YtjkbbdldmdajkaaGreatDoor.Fn
section
variable {α:Type}
theorem kE {d x:α} {pre r:List α}:nth d (pre++x::r) (pre.length:Int)=x:=by simp [nth,List.getD]
theorem kF {x:α} {pre r:List α} {f:α→α}:bB (pre++x::r) (pre.length:Int) f=pre++f x::r:=by
 unfold bB;refine List.ext_getElem (by simp) fun i h1 h2=>?_;simp only [Int.toNat_natCast,List.getElem_modify,List.getElem_append,List.getElem_cons];by_cases h:pre.length=i
 ·subst h;simp
 ·rw [if_neg h];split
  ·rfl
  ·rw [dif_neg (by omega),dif_neg (by omega)]
theorem kG {x y:α} {pre r:List α}:oI (pre++x::r) (pre.length:Int) y=pre++y::r:=by
 unfold oI;simp
theorem kH {x:α} {pre r:List α}:bW (pre.length:Int) (pre++x::r).length=true:=by simp [bW];omega
theorem kI {x:α} {pre r:List α}:bK (pre.length:Int) ((pre++x::r).length:Int)=true:=by simp [bK];omega
theorem agi {pre:List α}:bK (pre.length:Int) ((pre++[]).length:Int)=false:=by simp [bK]
theorem xg {m:Int} (h0:0≤m) (h1:m≤4611686018427387904):aP .i64 m (1:Int)=m+1:=tY (by omega) (by omega)
theorem gN {n:Nat} (h:n≤1048576):aP .i64 (n:Int) (1:Int)=((n+1:Nat):Int):=by
 rw [tY (by omega) (by omega)];omega
theorem fb {n:Nat}:leq n n=true:=by simp [leq]
theorem Aq {m:Int} (h:0≤m):bK m (0:Int)=false:=dy (by omega)
theorem nh {α:Type} {x:Option α}:aZ true x=x:=rfl
theorem da {m n:Nat} (h:m=n):leq m n=true:=by simp [leq,h]
def fR (w:α→Int):List α→Int
 | []=>0
 | x::r=>w x+fR w r
def Ci (w:α→Int) (g:Int→α→α):Int→List α→List α
 | _,[]=>[]
 | m,x::r=>g m x::Ci w g (m+w x) r
theorem ca {w:α→Int} {g:Int→α→α}:∀ {m:Int} {xs:List α},(Ci w g m xs).length=xs.length
 | _,[]=>rfl
 | _,x::r=>by simp [Ci,ca]
theorem ix {w:α→Int} (hw:∀ x,0≤w x):∀ xs:List α,0≤fR w xs
 | []=>Int.le_refl _
 | x::r=>by have:=hw x;have:=ix hw r;simp only [fR];omega
theorem ZB {w:α→Int} {b:Int}:∀ {xs:List α},(∀ x,x∈xs→w x≤b)→fR w xs≤xs.length*b
 | [],_=>by simp [fR]
 | x::r,h=>by
  have h1:=h x (by simp);have h2:=ZB (xs:=r) fun y hy=>h y (by simp [hy]);simp only [fR,List.length_cons,Int.natCast_add,Int.add_mul];omega
theorem lE {R:Type} {p:α→Prop} {w:α→Int} {g:Int→α→α} {l:Nat→Int→Int→List α→R} {J:Int→List α→R} {B:Nat} (hw:∀ x,0≤w x)
  (he:∀ k m (o:List α),l (k+1) m (o.length:Int) o=J m o)
  (h:∀ k m (pre:List α) x r,p x→B≤k→pre.length≤1048576→0≤m→m+w x≤4611686018427387904→l (k+1) m (pre.length:Int) (pre++x::r)=l k (m+w x) ((pre.length+1:Nat):Int) (pre++g m x::r)):
  ∀ (xs pre:List α) (m:Int) (k:Nat),(∀ x,x∈xs→p x)→B+xs.length+1≤k→pre.length+xs.length≤1048576→0≤m→m+fR w xs≤4611686018427387904→l k m (pre.length:Int) (pre++xs)=J (m+fR w xs) (pre++Ci w g m xs)
 | [],pre,m,k,_,hk,_,_,_=>by
  obtain ⟨k,rfl⟩:∃ j,k=j+1:=⟨k-1,by omega⟩;rw [List.append_nil,he];simp only [fR,Int.add_zero,Ci,List.append_nil]
 | x::r,pre,m,k,hp,hk,hq,h0,hm=>by
  obtain ⟨k,rfl⟩:∃ j,k=j+1:=⟨k-1,by omega⟩;simp only [List.length_cons] at hk hq;simp only [fR] at hm;have hx:=hw x;have hr:=ix hw r;rw [h k m pre x r (hp x (by simp)) (by omega) (by omega) h0 (by omega)];have e:pre++g m x::r=(pre++[g m x])++r:=by simp
  have e2:((pre.length+1:Nat):Int)=((pre++[g m x]).length:Int):=by simp
  rw [e,e2,lE hw he h r (pre++[g m x]) (m+w x) k (fun y hy=>hp y (by simp [hy])) (by omega) (by simp;omega) (by omega) (by omega)];simp only [fR,Ci,List.append_assoc,List.singleton_append]
  congr 1
  omega
theorem uH {R:Type} {p:α→Prop} {w:α→Int} {g:Int→α→α} {l:Nat→List α→Int→Int→R} {J:Int→R} {B:Nat} (hw:∀ x,0≤w x)
  (he:∀ k m (o:List α),l (k+1) o m (o.length:Int)=J m)
  (h:∀ k m (pre:List α) x r,p x→B≤k→pre.length≤1048576→0≤m→m+w x≤4611686018427387904→l (k+1) (pre++g m x::r) m (pre.length:Int)=l k (pre++g m x::r) (m+w x) ((pre.length+1:Nat):Int)):
  ∀ (xs pre:List α) (m:Int) (k:Nat),(∀ x,x∈xs→p x)→B+xs.length+1≤k→pre.length+xs.length≤1048576→0≤m→m+fR w xs≤4611686018427387904→l k (pre++Ci w g m xs) m (pre.length:Int)=J (m+fR w xs)
 | [],pre,m,k,_,hk,_,_,_=>by
  obtain ⟨k,rfl⟩:∃ j,k=j+1:=⟨k-1,by omega⟩;simp only [fR,Int.add_zero,Ci,List.append_nil];exact he k m pre
 | x::r,pre,m,k,hp,hk,hq,h0,hm=>by
  obtain ⟨k,rfl⟩:∃ j,k=j+1:=⟨k-1,by omega⟩;simp only [List.length_cons] at hk hq;simp only [fR] at hm;have hx:=hw x;have hr:=ix hw r;simp only [Ci];rw [h k m pre x _ (hp x (by simp)) (by omega) (by omega) h0 (by omega)];have e:pre++g m x::Ci w g (m+w x) r=(pre++[g m x])++Ci w g (m+w x) r:=by simp
  have e2:((pre.length+1:Nat):Int)=((pre++[g m x]).length:Int):=by simp
  rw [e,e2,uH hw he h r (pre++[g m x]) (m+w x) k (fun y hy=>hp y (by simp [hy])) (by omega) (by simp;omega) (by omega) (by omega)];simp only [fR]
  congr 1
  omega
end
def XU:Nat→Int→List UInt8→List UInt8
 | 0,_,acc=>acc
 | f+1,v,acc=>cond (bK 0 v) (XU f (Sk .i64 v 10) (Dc [zo .u8 (aP .i64 48 (xp v 10))]++acc)) acc
def IJ (m:Int):List UInt8:=cond (b8 m 0) [109,48] ([109]++XU 20 m [])
theorem Tc:∀ (f:Nat) (v:Int) (acc:List UInt8),(XU f v acc).length≤acc.length+f
 | 0,v,acc=>Nat.le_refl _
 | f+1,v,acc=>by
  simp only [XU];cases bK 0 v with
  | false=>simp only [cond_false];omega
  | true=>
   simp only [cond_true];have:=Tc f (Sk .i64 v 10) (Dc [zo .u8 (aP .i64 48 (xp v 10))]++acc);simp only [List.length_append,Dc,List.length_map,List.length_singleton] at this;simp only [Dc];omega
theorem adV {v:Int} (h0:0≤v) (h1:v≤9223372036854775807):Sk .i64 v 10=v / 10:=by
 have h2:v.tdiv 10=v / 10:=Int.tdiv_eq_ediv_of_nonneg h0;unfold Sk;rw [h2];exact vc (by omega) (by omega)
theorem ZP {m n:List UInt8} (h:m.length+n.length < 1000):QC m n=true:=by simp only [QC,decide_eq_true_eq];omega
theorem P5 {R:Type} {l:Nat→Int→List UInt8→Option R} {J:List UInt8→Option R}
  (hl:∀ k v a,l (k+1) v a=cond (bK (0:Int) v) (aZ (!bH (10:Int) 0) (aZ (QC (Dc ([zo .u8 (aP .i64 (48:Int) (xp v (10:Int)))]:List Int)) a) (aZ (!bH (10:Int) 0) (l k (Sk .i64 v (10:Int)) (Dc ([zo .u8 (aP .i64 (48:Int) (xp v (10:Int)))]:List Int)++a))))) (J a)):
  ∀ (f:Nat) (v:Int) (a:List UInt8) (k:Nat),0≤v→v≤9223372036854775807→v < 10 ^ f→a.length+f≤500→f+1≤k→l k v a=J (XU f v a)
 | 0,v,a,k,h0,_,h1,_,hk=>by
  obtain ⟨k,rfl⟩:∃ j,k=j+1:=⟨k-1,by omega⟩;have h1:v < 1:=by simpa using h1
  obtain rfl:v=0:=by omega
  rw [hl];rfl
 | f+1,v,a,k,h0,hm,h1,ha,hk=>by
  obtain ⟨k,rfl⟩:∃ j,k=j+1:=⟨k-1,by omega⟩;rw [hl];simp only [XU];cases hv:bK 0 v with
  | false=>rfl
  | true=>
   simp only [cond_true];have h2:(!bH (10:Int) 0)=true:=by decide
   rw [h2,ZP (by simp [Dc];omega)];show l k _ _=_;have hq:=adV h0 hm;refine P5 hl f _ _ k (by rw [hq];omega) (by rw [hq];omega) ?_ (by simp [Dc];omega) (by omega);rw [hq];rw [Int.pow_succ] at h1;exact Int.ediv_lt_of_lt_mul (by decide) h1
theorem dV {k:Nat} {m:Int} (hk:4194304≤k) (h1:m≤4611686018427387904):a_ k m=some (IJ m):=by
 unfold a_ IJ;cases hm:b8 m 0 with
 | true=>rfl
 | false=>
  simp only [cond_false,share];have h0:0≤m:=by simp only [b8,decide_eq_false_iff_not] at hm;omega
  have hp:m < 10 ^ 20:=by
   have e:(10:Int) ^ 20=100000000000000000000:=by decide
   omega
  have h:=P5 (R:=List UInt8) (l:=fun k v a=>iter (ts:=wH) (R:=List UInt8) k (AB (fun (v5:List UInt8)=>aZ (QC ([109]:List UInt8) v5) (some (([109]:List UInt8)++v5)))) v a) (J:=fun (v5:List UInt8)=>aZ (QC ([109]:List UInt8) v5) (some (([109]:List UInt8)++v5)))
   (fun k v a=>rfl) 20 m [] k h0 (by omega) hp (by simp) (by omega)
  have hlen:=Tc 20 m [];refine h.trans ?_;rw [ZP (by simp only [List.length_singleton,List.length_nil] at hlen ⊢;omega)];rfl
end Go.Proofs.YtjkbbdldmdajkaaGreatDoor.Pu
