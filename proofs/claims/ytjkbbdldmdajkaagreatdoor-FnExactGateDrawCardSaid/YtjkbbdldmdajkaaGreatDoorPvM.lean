/- What marks, and what reads the marks: loops over lists; the decimal text of a mark. No condition. -/
import Derived.Test.YtjkbbdldmdajkaaGreatDoorPvA
set_option linter.unusedSimpArgs false
set_option linter.unusedVariables false
namespace Go.Proofs.YtjkbbdldmdajkaaGreatDoor.Pu
open Go Go.RowKit Go.Proofs.YtjkbbdldmdajkaaGreatDoor.c5 Go.Proofs.YtjkbbdldmdajkaaGreatDoor.Fn
section
variable {α:Type}
theorem j9 {d x:α} {pre r:List α}:nth d (pre++x::r) (pre.length:Int)=x:=by simp [nth,List.getD]
theorem j_ {x:α} {pre r:List α} {f:α→α}:bA (pre++x::r) (pre.length:Int) f=pre++f x::r:=by
 unfold bA;refine List.ext_getElem (by simp) fun i h1 h2=>?_;simp only [Int.toNat_natCast,List.getElem_modify,List.getElem_append,List.getElem_cons];by_cases h:pre.length=i
 ·subst h;simp
 ·rw [if_neg h];split
  ·rfl
  ·rw [dif_neg (by omega),dif_neg (by omega)]
theorem kc {x y:α} {pre r:List α}:nQ (pre++x::r) (pre.length:Int) y=pre++y::r:=by
 unfold nQ;simp
theorem kf {x:α} {pre r:List α}:bW (pre.length:Int) (pre++x::r).length=true:=by simp [bW];omega
theorem kg {x:α} {pre r:List α}:bM (pre.length:Int) ((pre++x::r).length:Int)=true:=by simp [bM];omega
theorem agf {pre:List α}:bM (pre.length:Int) ((pre++[]).length:Int)=false:=by simp [bM]
theorem wm {m:Int} (h0:0≤m) (h1:m≤4611686018427387904):aN .i64 m (1:Int)=m+1:=s9 (by omega) (by omega)
theorem gJ {n:Nat} (h:n≤1048576):aN .i64 (n:Int) (1:Int)=((n+1:Nat):Int):=by
 rw [s9 (by omega) (by omega)];omega
theorem fE {n:Nat}:leq n n=true:=by simp [leq]
theorem zI {m:Int} (h:0≤m):bM m (0:Int)=false:=e9 (by omega)
theorem mz {α:Type} {x:Option α}:bE true x=x:=rfl
theorem pY {m n:Nat} (h:m=n):leq m n=true:=by simp [leq,h]
def fD (w:α→Int):List α→Int
 | []=>0
 | x::r=>w x+fD w r
def BC (w:α→Int) (g:Int→α→α):Int→List α→List α
 | _,[]=>[]
 | m,x::r=>g m x::BC w g (m+w x) r
theorem dr {w:α→Int} {g:Int→α→α}:∀ {m:Int} {xs:List α},(BC w g m xs).length=xs.length
 | _,[]=>rfl
 | _,x::r=>by simp [BC,dr]
theorem ig {w:α→Int} (hw:∀ x,0≤w x):∀ xs:List α,0≤fD w xs
 | []=>Int.le_refl _
 | x::r=>by have:=hw x;have:=ig hw r;simp only [fD];omega
theorem Zg {w:α→Int} {b:Int}:∀ {xs:List α},(∀ x,x∈xs→w x≤b)→fD w xs≤xs.length*b
 | [],_=>by simp [fD]
 | x::r,h=>by
  have h1:=h x (by simp);have h2:=Zg (xs:=r) fun y hy=>h y (by simp [hy]);simp only [fD,List.length_cons,Int.natCast_add,Int.add_mul];omega
theorem kS {R:Type} {p:α→Prop} {w:α→Int} {g:Int→α→α} {l:Nat→Int→Int→List α→R} {J:Int→List α→R} {B:Nat} (hw:∀ x,0≤w x)
  (he:∀ k m (o:List α),l (k+1) m (o.length:Int) o=J m o)
  (h:∀ k m (pre:List α) x r,p x→B≤k→pre.length≤1048576→0≤m→m+w x≤4611686018427387904→l (k+1) m (pre.length:Int) (pre++x::r)=l k (m+w x) ((pre.length+1:Nat):Int) (pre++g m x::r)):
  ∀ (xs pre:List α) (m:Int) (k:Nat),(∀ x,x∈xs→p x)→B+xs.length+1≤k→pre.length+xs.length≤1048576→0≤m→m+fD w xs≤4611686018427387904→l k m (pre.length:Int) (pre++xs)=J (m+fD w xs) (pre++BC w g m xs)
 | [],pre,m,k,_,hk,_,_,_=>by
  obtain ⟨k,rfl⟩:∃ j,k=j+1:=⟨k-1,by omega⟩;rw [List.append_nil,he];simp only [fD,Int.add_zero,BC,List.append_nil]
 | x::r,pre,m,k,hp,hk,hq,h0,hm=>by
  obtain ⟨k,rfl⟩:∃ j,k=j+1:=⟨k-1,by omega⟩;simp only [List.length_cons] at hk hq;simp only [fD] at hm;have hx:=hw x;have hr:=ig hw r;rw [h k m pre x r (hp x (by simp)) (by omega) (by omega) h0 (by omega)];have e:pre++g m x::r=(pre++[g m x])++r:=by simp
  have e2:((pre.length+1:Nat):Int)=((pre++[g m x]).length:Int):=by simp
  rw [e,e2,kS hw he h r (pre++[g m x]) (m+w x) k (fun y hy=>hp y (by simp [hy])) (by omega) (by simp;omega) (by omega) (by omega)];simp only [fD,BC,List.append_assoc,List.singleton_append]
  congr 1
  omega
theorem tF {R:Type} {p:α→Prop} {w:α→Int} {g:Int→α→α} {l:Nat→List α→Int→Int→R} {J:Int→R} {B:Nat} (hw:∀ x,0≤w x)
  (he:∀ k m (o:List α),l (k+1) o m (o.length:Int)=J m)
  (h:∀ k m (pre:List α) x r,p x→B≤k→pre.length≤1048576→0≤m→m+w x≤4611686018427387904→l (k+1) (pre++g m x::r) m (pre.length:Int)=l k (pre++g m x::r) (m+w x) ((pre.length+1:Nat):Int)):
  ∀ (xs pre:List α) (m:Int) (k:Nat),(∀ x,x∈xs→p x)→B+xs.length+1≤k→pre.length+xs.length≤1048576→0≤m→m+fD w xs≤4611686018427387904→l k (pre++BC w g m xs) m (pre.length:Int)=J (m+fD w xs)
 | [],pre,m,k,_,hk,_,_,_=>by
  obtain ⟨k,rfl⟩:∃ j,k=j+1:=⟨k-1,by omega⟩;simp only [fD,Int.add_zero,BC,List.append_nil];exact he k m pre
 | x::r,pre,m,k,hp,hk,hq,h0,hm=>by
  obtain ⟨k,rfl⟩:∃ j,k=j+1:=⟨k-1,by omega⟩;simp only [List.length_cons] at hk hq;simp only [fD] at hm;have hx:=hw x;have hr:=ig hw r;simp only [BC];rw [h k m pre x _ (hp x (by simp)) (by omega) (by omega) h0 (by omega)];have e:pre++g m x::BC w g (m+w x) r=(pre++[g m x])++BC w g (m+w x) r:=by simp
  have e2:((pre.length+1:Nat):Int)=((pre++[g m x]).length:Int):=by simp
  rw [e,e2,tF hw he h r (pre++[g m x]) (m+w x) k (fun y hy=>hp y (by simp [hy])) (by omega) (by simp;omega) (by omega) (by omega)];simp only [fD]
  congr 1
  omega
end
def Xz:Nat→Int→List UInt8→List UInt8
 | 0,_,acc=>acc
 | f+1,v,acc=>cond (bM 0 v) (Xz f (RO .i64 v 10) (CB [yE .u8 (aN .i64 48 (wv v 10))]++acc)) acc
def Ic (m:Int):List UInt8:=cond (b6 m 0) [109,48] ([109]++Xz 20 m [])
theorem SE:∀ (f:Nat) (v:Int) (acc:List UInt8),(Xz f v acc).length≤acc.length+f
 | 0,v,acc=>Nat.le_refl _
 | f+1,v,acc=>by
  simp only [Xz];cases bM 0 v with
  | false=>simp only [cond_false];omega
  | true=>
   simp only [cond_true];have:=SE f (RO .i64 v 10) (CB [yE .u8 (aN .i64 48 (wv v 10))]++acc);simp only [List.length_append,CB,List.length_map,List.length_singleton] at this;simp only [CB];omega
theorem adE {v:Int} (h0:0≤v) (h1:v≤9223372036854775807):RO .i64 v 10=v / 10:=by
 have h2:v.tdiv 10=v / 10:=Int.tdiv_eq_ediv_of_nonneg h0;unfold RO;rw [h2];exact pZ (by omega) (by omega)
theorem Zy {m n:List UInt8} (h:m.length+n.length < 1000):Qf m n=true:=by simp only [Qf,decide_eq_true_eq];omega
theorem PD {R:Type} {l:Nat→Int→List UInt8→Option R} {J:List UInt8→Option R}
  (hl:∀ k v a,l (k+1) v a=cond (bM (0:Int) v) (bE (!bI (10:Int) 0) (bE (Qf (CB ([yE .u8 (aN .i64 (48:Int) (wv v (10:Int)))]:List Int)) a) (bE (!bI (10:Int) 0) (l k (RO .i64 v (10:Int)) (CB ([yE .u8 (aN .i64 (48:Int) (wv v (10:Int)))]:List Int)++a))))) (J a)):
  ∀ (f:Nat) (v:Int) (a:List UInt8) (k:Nat),0≤v→v≤9223372036854775807→v < 10 ^ f→a.length+f≤500→f+1≤k→l k v a=J (Xz f v a)
 | 0,v,a,k,h0,_,h1,_,hk=>by
  obtain ⟨k,rfl⟩:∃ j,k=j+1:=⟨k-1,by omega⟩;have h1:v < 1:=by simpa using h1
  obtain rfl:v=0:=by omega
  rw [hl];rfl
 | f+1,v,a,k,h0,hm,h1,ha,hk=>by
  obtain ⟨k,rfl⟩:∃ j,k=j+1:=⟨k-1,by omega⟩;rw [hl];simp only [Xz];cases hv:bM 0 v with
  | false=>rfl
  | true=>
   simp only [cond_true];have h2:(!bI (10:Int) 0)=true:=by decide
   rw [h2,Zy (by simp [CB];omega)];show l k _ _=_;have hq:=adE h0 hm;refine PD hl f _ _ k (by rw [hq];omega) (by rw [hq];omega) ?_ (by simp [CB];omega) (by omega);rw [hq];rw [Int.pow_succ] at h1;exact Int.ediv_lt_of_lt_mul (by decide) h1
theorem dM {k:Nat} {m:Int} (hk:4194304≤k) (h1:m≤4611686018427387904):a_ k m=some (Ic m):=by
 unfold a_ Ic;cases hm:b6 m 0 with
 | true=>rfl
 | false=>
  simp only [cond_false,share];have h0:0≤m:=by simp only [b6,decide_eq_false_iff_not] at hm;omega
  have hp:m < 10 ^ 20:=by
   have e:(10:Int) ^ 20=100000000000000000000:=by decide
   omega
  have h:=PD (R:=List UInt8) (l:=fun k v a=>iter (ts:=vD) (R:=List UInt8) k (zW (fun (v5:List UInt8)=>bE (Qf ([109]:List UInt8) v5) (some (([109]:List UInt8)++v5)))) v a) (J:=fun (v5:List UInt8)=>bE (Qf ([109]:List UInt8) v5) (some (([109]:List UInt8)++v5)))
   (fun k v a=>rfl) 20 m [] k h0 (by omega) hp (by simp) (by omega)
  have hlen:=SE 20 m [];refine h.trans ?_;rw [Zy (by simp only [List.length_singleton,List.length_nil] at hlen ⊢;omega)];rfl
end Go.Proofs.YtjkbbdldmdajkaaGreatDoor.Pu
