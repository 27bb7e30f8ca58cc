/- What marks, and what reads the marks: loops over lists; the decimal text of a mark. No condition. -/
import Derived.Test.YtljfmaaadnoggaaPvA
namespace Go.Proofs.Ytljfmaaadnoggaa.Pu
open Go Go.RowKit Go.Proofs.Ytljfmaaadnoggaa.Abs Go.Proofs.Ytljfmaaadnoggaa.Fn
section
variable {α:Type}
theorem nth_mid {d x:α} {pre r:List α}:nth d (pre++x::r) (pre.length:Int)=x:=by simp [nth,List.getD]
theorem mod_mid {x:α} {pre r:List α} {f:α→α}:mod' (pre++x::r) (pre.length:Int) f=pre++f x::r:=by
 unfold mod'
 refine List.ext_getElem (by simp) fun i h1 h2=>?_
 simp only [Int.toNat_natCast,List.getElem_modify,List.getElem_append,List.getElem_cons]
 by_cases h:pre.length=i
 ·subst h;simp
 ·rw [if_neg h]
  split
  ·rfl
  ·rw [dif_neg (by omega),dif_neg (by omega)]
theorem put_mid {x y:α} {pre r:List α}:put' (pre++x::r) (pre.length:Int) y=pre++y::r:=by
 unfold put'
 simp
theorem inb_mid {x:α} {pre r:List α}:inb (pre.length:Int) (pre++x::r).length=true:=by simp [inb];omega
theorem ilt_mid {x:α} {pre r:List α}:ilt (pre.length:Int) ((pre++x::r).length:Int)=true:=by simp [ilt];omega
theorem ilt_end {pre:List α}:ilt (pre.length:Int) ((pre++[]).length:Int)=false:=by simp [ilt]
theorem iadd1 {m:Int} (h0:0≤m) (h1:m≤4611686018427387904):iadd .i64 m (1:Int)=m+1:=iaddn (by omega) (by omega)
theorem iadd_pre {n:Nat} (h:n≤1048576):iadd .i64 (n:Int) (1:Int)=((n+1:Nat):Int):=by
 rw [iaddn (by omega) (by omega)];omega
theorem leq_rfl {n:Nat}:leq n n=true:=by simp [leq]
theorem ilt0_f {m:Int} (h:0≤m):ilt m (0:Int)=false:=ilt_f (by omega)
theorem mreq_t {α:Type} {x:Option α}:req true x=x:=rfl
theorem leq_len {m n:Nat} (h:m=n):leq m n=true:=by simp [leq,h]
def mkW (w:α→Int):List α→Int
 | []=>0
 | x::r=>w x+mkW w r
def mkL (w:α→Int) (g:Int→α→α):Int→List α→List α
 | _,[]=>[]
 | m,x::r=>g m x::mkL w g (m+w x) r
theorem mkL_len {w:α→Int} {g:Int→α→α}:∀ {m:Int} {xs:List α},(mkL w g m xs).length=xs.length
 | _,[]=>rfl
 | _,x::r=>by simp [mkL,mkL_len]
theorem mkW_nn {w:α→Int} (hw:∀ x,0≤w x):∀ xs:List α,0≤mkW w xs
 | []=>Int.le_refl _
 | x::r=>by have:=hw x;have:=mkW_nn hw r;simp only [mkW];omega
theorem mkW_le {w:α→Int} {b:Int}:∀ {xs:List α},(∀ x,x∈xs→w x≤b)→mkW w xs≤xs.length*b
 | [],_=>by simp [mkW]
 | x::r,h=>by
  have h1:=h x (by simp)
  have h2:=mkW_le (xs:=r) fun y hy=>h y (by simp [hy])
  simp only [mkW,List.length_cons,Int.natCast_add,Int.add_mul]
  omega
theorem mark_loop {R:Type} {p:α→Prop} {w:α→Int} {g:Int→α→α} {l:Nat→Int→Int→List α→R} {J:Int→List α→R} {B:Nat} (hw:∀ x,0≤w x)
  (he:∀ k m (o:List α),l (k+1) m (o.length:Int) o=J m o)
  (h:∀ k m (pre:List α) x r,p x→B≤k→pre.length≤1048576→0≤m→m+w x≤4611686018427387904→l (k+1) m (pre.length:Int) (pre++x::r)=l k (m+w x) ((pre.length+1:Nat):Int) (pre++g m x::r)):
  ∀ (xs pre:List α) (m:Int) (k:Nat),(∀ x,x∈xs→p x)→B+xs.length+1≤k→pre.length+xs.length≤1048576→0≤m→m+mkW w xs≤4611686018427387904→l k m (pre.length:Int) (pre++xs)=J (m+mkW w xs) (pre++mkL w g m xs)
 | [],pre,m,k,_,hk,_,_,_=>by
  obtain ⟨k,rfl⟩:∃ j,k=j+1:=⟨k-1,by omega⟩
  rw [List.append_nil,he]
  simp only [mkW,Int.add_zero,mkL,List.append_nil]
 | x::r,pre,m,k,hp,hk,hq,h0,hm=>by
  obtain ⟨k,rfl⟩:∃ j,k=j+1:=⟨k-1,by omega⟩
  simp only [List.length_cons] at hk hq
  simp only [mkW] at hm
  have hx:=hw x
  have hr:=mkW_nn hw r
  rw [h k m pre x r (hp x (by simp)) (by omega) (by omega) h0 (by omega)]
  have e:pre++g m x::r=(pre++[g m x])++r:=by simp
  have e2:((pre.length+1:Nat):Int)=((pre++[g m x]).length:Int):=by simp
  rw [e,e2,mark_loop hw he h r (pre++[g m x]) (m+w x) k (fun y hy=>hp y (by simp [hy])) (by omega) (by simp;omega) (by omega) (by omega)]
  simp only [mkW,mkL,List.append_assoc,List.singleton_append]
  congr 1
  omega
theorem held_loop {R:Type} {p:α→Prop} {w:α→Int} {g:Int→α→α} {l:Nat→List α→Int→Int→R} {J:Int→R} {B:Nat} (hw:∀ x,0≤w x)
  (he:∀ k m (o:List α),l (k+1) o m (o.length:Int)=J m)
  (h:∀ k m (pre:List α) x r,p x→B≤k→pre.length≤1048576→0≤m→m+w x≤4611686018427387904→l (k+1) (pre++g m x::r) m (pre.length:Int)=l k (pre++g m x::r) (m+w x) ((pre.length+1:Nat):Int)):
  ∀ (xs pre:List α) (m:Int) (k:Nat),(∀ x,x∈xs→p x)→B+xs.length+1≤k→pre.length+xs.length≤1048576→0≤m→m+mkW w xs≤4611686018427387904→l k (pre++mkL w g m xs) m (pre.length:Int)=J (m+mkW w xs)
 | [],pre,m,k,_,hk,_,_,_=>by
  obtain ⟨k,rfl⟩:∃ j,k=j+1:=⟨k-1,by omega⟩
  simp only [mkW,Int.add_zero,mkL,List.append_nil]
  exact he k m pre
 | x::r,pre,m,k,hp,hk,hq,h0,hm=>by
  obtain ⟨k,rfl⟩:∃ j,k=j+1:=⟨k-1,by omega⟩
  simp only [List.length_cons] at hk hq
  simp only [mkW] at hm
  have hx:=hw x
  have hr:=mkW_nn hw r
  simp only [mkL]
  rw [h k m pre x _ (hp x (by simp)) (by omega) (by omega) h0 (by omega)]
  have e:pre++g m x::mkL w g (m+w x) r=(pre++[g m x])++mkL w g (m+w x) r:=by simp
  have e2:((pre.length+1:Nat):Int)=((pre++[g m x]).length:Int):=by simp
  rw [e,e2,held_loop hw he h r (pre++[g m x]) (m+w x) k (fun y hy=>hp y (by simp [hy])) (by omega) (by simp;omega) (by omega) (by omega)]
  simp only [mkW]
  congr 1
  omega
end
def mkGo:Nat→Int→List UInt8→List UInt8
 | 0,_,acc=>acc
 | f+1,v,acc=>cond (ilt 0 v) (mkGo f (iquo .i64 v 10) (bstr [iconv .u8 (iadd .i64 48 (irem v 10))]++acc)) acc
def mkT (m:Int):List UInt8:=cond (ile m 0) [109,48] ([109]++mkGo 20 m [])
theorem mkGo_len:∀ (f:Nat) (v:Int) (acc:List UInt8),(mkGo f v acc).length≤acc.length+f
 | 0,v,acc=>Nat.le_refl _
 | f+1,v,acc=>by
  simp only [mkGo]
  cases ilt 0 v with
  | false=>simp only [cond_false];omega
  | true=>
   simp only [cond_true]
   have:=mkGo_len f (iquo .i64 v 10) (bstr [iconv .u8 (iadd .i64 48 (irem v 10))]++acc)
   simp only [List.length_append,bstr,List.length_map,List.length_singleton] at this
   simp only [bstr]
   omega
theorem iquo10 {v:Int} (h0:0≤v) (h1:v≤9223372036854775807):iquo .i64 v 10=v / 10:=by
 have h2:v.tdiv 10=v / 10:=Int.tdiv_eq_ediv_of_nonneg h0
 unfold iquo
 rw [h2]
 exact wrap_id (by omega) (by omega)
theorem catB_s {m n:List UInt8} (h:m.length+n.length < 1000):catB m n=true:=by simp only [catB,decide_eq_true_eq];omega
theorem mkGo_loop {R:Type} {l:Nat→Int→List UInt8→Option R} {J:List UInt8→Option R}
  (hl:∀ k v a,l (k+1) v a=cond (ilt (0:Int) v) (req (!ieq (10:Int) 0) (req (catB (bstr ([iconv .u8 (iadd .i64 (48:Int) (irem v (10:Int)))]:List Int)) a) (req (!ieq (10:Int) 0) (l k (iquo .i64 v (10:Int)) (bstr ([iconv .u8 (iadd .i64 (48:Int) (irem v (10:Int)))]:List Int)++a))))) (J a)):
  ∀ (f:Nat) (v:Int) (a:List UInt8) (k:Nat),0≤v→v≤9223372036854775807→v < 10 ^ f→a.length+f≤500→f+1≤k→l k v a=J (mkGo f v a)
 | 0,v,a,k,h0,_,h1,_,hk=>by
  obtain ⟨k,rfl⟩:∃ j,k=j+1:=⟨k-1,by omega⟩
  have h1:v < 1:=by simpa using h1
  obtain rfl:v=0:=by omega
  rw [hl];rfl
 | f+1,v,a,k,h0,hm,h1,ha,hk=>by
  obtain ⟨k,rfl⟩:∃ j,k=j+1:=⟨k-1,by omega⟩
  rw [hl]
  simp only [mkGo]
  cases hv:ilt 0 v with
  | false=>rfl
  | true=>
   simp only [cond_true]
   have h2:(!ieq (10:Int) 0)=true:=by decide
   rw [h2,catB_s (by simp [bstr];omega)]
   show l k _ _=_
   have hq:=iquo10 h0 hm
   refine mkGo_loop hl f _ _ k (by rw [hq];omega) (by rw [hq];omega) ?_ (by simp [bstr];omega) (by omega)
   rw [hq]
   rw [Int.pow_succ] at h1
   exact Int.ediv_lt_of_lt_mul (by decide) h1
theorem markText_e {k:Nat} {m:Int} (hk:4194304≤k) (h1:m≤4611686018427387904):laws_markText k m=some (mkT m):=by
 unfold laws_markText mkT
 cases hm:ile m 0 with
 | true=>rfl
 | false=>
  simp only [cond_false,share]
  have h0:0≤m:=by simp only [ile,decide_eq_false_iff_not] at hm;omega
  have hp:m < 10 ^ 20:=by
   have e:(10:Int) ^ 20=100000000000000000000:=by decide
   omega
  have h:=mkGo_loop (R:=List UInt8) (l:=fun k v a=>iter (ts:=laws_markText_L4_ts) (R:=List UInt8) k (laws_markText_L4 (fun (v5:List UInt8)=>req (catB ([109]:List UInt8) v5) (some (([109]:List UInt8)++v5)))) v a) (J:=fun (v5:List UInt8)=>req (catB ([109]:List UInt8) v5) (some (([109]:List UInt8)++v5)))
   (fun k v a=>rfl) 20 m [] k h0 (by omega) hp (by simp) (by omega)
  have hlen:=mkGo_len 20 m []
  refine h.trans ?_
  rw [catB_s (by simp only [List.length_singleton,List.length_nil] at hlen ⊢;omega)]
  rfl
end Go.Proofs.Ytljfmaaadnoggaa.Pu
