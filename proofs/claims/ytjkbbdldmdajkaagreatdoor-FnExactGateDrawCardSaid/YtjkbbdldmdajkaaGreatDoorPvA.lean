/- Plain words: what a printed function yields for all great enough fuel; loops; the laws' own functions in general. No condition. -/
import Derived.Test.YtjkbbdldmdajkaaGreatDoorFnFd
set_option linter.unusedSimpArgs false
set_option linter.unusedVariables false
namespace Go.Proofs.YtjkbbdldmdajkaaGreatDoor.Pu
open Go Go.RowKit Go.Proofs.YtjkbbdldmdajkaaGreatDoor.c5 Go.Proofs.YtjkbbdldmdajkaaGreatDoor.Fn
def Yd {α:Type} (F:Nat→Option α) (a:α):Prop:=∃ K,∀ k,K≤k→F k=some a
def Lp {J α:Type} (F:Nat→J→Option α) (G:J→Option α):Prop:=∃ K,∀ k,K≤k→∀ j,F k j=G j
section
variable {α β J:Type} {F G:Nat→Option α} {a:α} {b:β} {p:Bool}
theorem Yd.pure:Yd (fun _=>some a) a:=⟨0,fun _ _=>rfl⟩
theorem Yd.of (h:∀ k,F k=some a):Yd F a:=⟨0,fun k _=>h k⟩
theorem Yd.succ (h:Yd (fun k=>F (k+1)) a):Yd F a:=by
 obtain ⟨K,hK⟩:=h;refine ⟨K+1,fun k hk=>?_⟩;obtain ⟨k,rfl⟩:∃ j,k=j+1:=⟨k-1,by omega⟩;exact hK k (by omega)
theorem Yd.bind {G:Nat→α→Option β} (h:Yd F a) (h':Yd (fun k=>G k a) b):Yd (fun k=>(F k).bind (G k)) b:=by
 obtain ⟨K,hK⟩:=h;obtain ⟨L,hL⟩:=h';refine ⟨max K L,fun k hk=>?_⟩;simp only [hK k (by omega),Option.bind_some];exact hL k (by omega)
theorem Yd.cp (hp:p=true) (h:Yd F a):Yd (fun k=>cond p (F k) (G k)) a:=by subst hp;exact h
theorem Yd.cn (hp:p=false) (h:Yd G a):Yd (fun k=>cond p (F k) (G k)) a:=by subst hp;exact h
theorem Yd.ci (h:p=true→Yd F a) (h':p=false→Yd G a):Yd (fun k=>cond p (F k) (G k)) a:=by
 cases p
 ·exact h' rfl
 ·exact h rfl
theorem Yd.rq (hp:p=true) (h:Yd F a):Yd (fun k=>bE p (F k)) a:=by subst hp;exact h
theorem Yd.to {a':α} (h:Yd F a) (e:a=a'):Yd F a':=e▸h
theorem Yd.one (h:Yd F a):∃ k,F k=some a:=let ⟨K,hK⟩:=h;⟨K,hK K (Nat.le_refl _)⟩
theorem Yd.loop {L:Nat→J→Option α} {H:J→Option α} {X:Nat→J} (h:Lp L H) (h':Yd (fun k=>H (X k)) a):Yd (fun k=>L k (X k)) a:=by
 obtain ⟨K,hK⟩:=h;obtain ⟨M,hM⟩:=h';exact ⟨max K M,fun k hk=>by
  show L k (X k)=some a;rw [hK k (by omega)];exact hM k (by omega)⟩
theorem Lp.yd {L:Nat→J→Option α} {H:J→Option α} (h:Lp L H) (x:J) (h':H x=some a):Yd (fun k=>L k x) a:=Yd.loop (X:=fun _=>x) h (Yd.of fun _=>h')
variable {L M:Nat→J→Option α} {H:J→Option α}
theorem Lp.here:Lp (fun _ j=>H j) H:=⟨0,fun _ _ _=>rfl⟩
theorem Lp.succ (h:Lp (fun k=>L (k+1)) H):Lp L H:=by
 obtain ⟨K,hK⟩:=h;refine ⟨K+1,fun k hk j=>?_⟩;obtain ⟨k,rfl⟩:∃ j,k=j+1:=⟨k-1,by omega⟩;exact hK k (by omega) j
theorem Lp.cp (hp:p=true) (h:Lp L H):Lp (fun k j=>cond p (L k j) (M k j)) H:=by subst hp;exact h
theorem Lp.cn (hp:p=false) (h:Lp M H):Lp (fun k j=>cond p (L k j) (M k j)) H:=by subst hp;exact h
theorem Lp.rq (hp:p=true) (h:Lp L H):Lp (fun k j=>bE p (L k j)) H:=by subst hp;exact h
theorem Lp.bind {F:Nat→Option β} {G:Nat→J→β→Option α} (h:Yd F b) (h':Lp (fun k j=>G k j b) H):Lp (fun k j=>(F k).bind (G k j)) H:=by
 obtain ⟨K,hK⟩:=h;obtain ⟨L,hL⟩:=h';refine ⟨max K L,fun k hk j=>?_⟩;simp only [hK k (by omega),Option.bind_some];exact hL k (by omega) j
theorem Lp.to {H':J→Option α} (h:Lp L H) (e:H=H'):Lp L H':=e▸h
theorem Lp.map {J':Type} {L:Nat→J'→Option α} {H:J'→Option α} {f:J→J'} (h:Lp L H):Lp (fun k j=>L k (f j)) (fun j=>H (f j)):=let ⟨K,hK⟩:=h;⟨K,fun k hk j=>hK k hk _⟩
end
theorem max_eq:maxLen=9223372036854775807:=rfl
theorem s9 {m n:Int} (h0:-9223372036854775808≤m+n) (h1:m+n≤9223372036854775807):aN .i64 m n=m+n:=pZ h0 h1
theorem VH {m n:Int} (h0:-9223372036854775808≤m-n) (h1:m-n≤9223372036854775807):bS .i64 m n=m-n:=pZ h0 h1
theorem kZ {m n:Int} (h:m < n):bM m n=true:=decide_eq_true h
theorem e9 {m n:Int} (h:¬ m < n):bM m n=false:=decide_eq_false h
theorem FW {m n:Int} (h:m≤n):b6 m n=true:=decide_eq_true h
theorem RU {m n:Int} (h:¬ m≤n):b6 m n=false:=decide_eq_false h
theorem HT {i:Int} {n:Nat} (h0:0≤i) (h1:i < n):bW i n=true:=by simp [bW,h0,h1]
theorem QR {α:Type} {d:α} {x:List α} {i:Nat} (hi:i < x.length):nth d x (i:Int)∈x:=by
 simp only [nth,Int.toNat_natCast,List.getD];rw [List.getElem?_eq_getElem hi];exact List.getElem_mem hi
theorem LB {α:Type} {d:α} {x:List α} {i:Nat} (hi:i < x.length):nth d x (i:Int)=x[i]:=by
 simp only [nth,Int.toNat_natCast,List.getD];rw [List.getElem?_eq_getElem hi];rfl
theorem drop_cons {α:Type} {d:α} {x:List α} {i:Nat} (h:i < x.length):x.drop i=nth d x (i:Int)::x.drop (i+1):=by
 rw [List.drop_eq_getElem_cons h,LB h]
theorem ae5 {α:Type} {x:List α} {i:Nat} (h:x.length≤i):x.drop i=[]:=List.drop_eq_nil_of_le h
theorem pj (s:List UInt8):seq s s=true:=by simp [seq]
theorem ph (n:Int):bI n n=true:=by simp [bI]
theorem AJ (b:Bool):c5.beq b b=true:=by cases b<;>rfl
def k_ {α:Type} (p:α→Prop) (xs:List α):Prop:=xs.length≤1048576∧∀ x,x∈xs→p x
def dd (s:List UInt8):Prop:=s.length≤1048576
def mj {α:Type} (_:α):Prop:=True
def iC (F:Nat→Option Int) (n:Int) (P:Prop):Prop:=∃ v,Yd F v∧v≤n∧(0≤v→P)
section
variable {n:Int} {P P1:Prop}
theorem iC.done (h:P):iC (fun _=>some n) n P:=⟨n,Yd.pure,Int.le_refl _,fun _=>h⟩
theorem iC.imp {F:Nat→Option Int} (h:iC F n P1) (hp:P1→P):iC F n P:=
 let ⟨v,h1,h2,h3⟩:=h;⟨v,h1,h2,fun h=>hp (h3 h)⟩
theorem iC.str {L:Nat} {G:Nat→Option Int} (h0:0≤n) (hn:n≤1048576) (hL:L≤maxLen)
  (rest:0≤bS .i64 n (L:Int)→bS .i64 n (L:Int)≤1048576→L≤1048576→iC G (bS .i64 n (L:Int)) P):
  iC (fun k=>cond (bM (bS .i64 n (L:Int)) 0) (some (-1)) (G k)) n P:=by
 have hm:=max_eq;have e:bS .i64 n (L:Int)=n-L:=VH (by omega) (by omega);by_cases c:bS .i64 n (L:Int) < 0
 ·exact ⟨-1,Yd.cp (kZ c) Yd.pure,by omega,by omega⟩
 ·obtain ⟨v,h1,h2,h3⟩:=rest (by omega) (by omega) (by omega);exact ⟨v,Yd.cn (e9 c) h1,by omega,h3⟩
theorem iC.call {F:Nat→Option Int} {G:Nat→Int→Option Int} (h:iC F n P1) (h0:0≤n) (hn:n≤1048576) (rest:∀ v,0≤v→v≤1048576→v≤n→P1→iC (fun k=>G k v) v P):
  iC (fun k=>(F k).bind fun v=>cond (bM v 0) (some (-1)) (G k v)) n P:=by
 obtain ⟨v,h1,h2,h3⟩:=h;by_cases c:v < 0
 ·exact ⟨-1,Yd.bind h1 (Yd.cp (kZ c) Yd.pure),by omega,by omega⟩
 ·obtain ⟨u,k1,k2,k3⟩:=rest v (by omega) (by omega) h2 (h3 (by omega));exact ⟨u,Yd.bind h1 (Yd.cn (e9 c) k1),by omega,k3⟩
theorem iC.last {F:Nat→Option Int} (h:iC F n P1) (hp:P1→P):iC (fun k=>(F k).bind fun v=>some v) n P:=by
 obtain ⟨v,h1,h2,h3⟩:=h;exact ⟨v,Yd.bind h1 Yd.pure,h2,fun h=>hp (h3 h)⟩
variable {α:Type} {d:α} {x:List α} {p:α→Prop}
theorem Zx {F:Nat→α→Int→Option Int} {l:Nat→Int→Int→Option Int} (hx:x.length≤maxLen)
  (hl:∀ k v i,l (k+1) v i=cond (bM i (x.length:Int)) (bE (bW i x.length) ((F k (nth d x i) v).bind fun r=>cond (bM r 0) (some (-1)) (l k r (aN .i64 i 1)))) (some v))
  (hF:∀ y,y∈x→∀ n,0≤n→n≤1048576→iC (fun k=>F k y n) n (p y)):∀ (m i:Nat) (n:Int),i+m=x.length→n≤1048576→0≤n→
  ∃ v,Yd (fun k=>l k n (i:Int)) v∧v≤n∧(0≤v→∀ j,i≤j→(h:j < x.length)→p x[j]):=by
 intro m
 induction m with
 | zero=>
  intro i n h hn h0;refine ⟨n,Yd.succ ?_,Int.le_refl _,fun _ j h1 h2=>by omega⟩;simp only [hl];exact Yd.cn (e9 (by omega)) Yd.pure
 | succ m ih=>
  intro i n h hn h0;have hi:i < x.length:=by omega
  have hm:=max_eq;obtain ⟨r,k1,k2,k3⟩:=hF _ (QR (d:=d) hi) n h0 hn;by_cases c:r < 0
  ·refine ⟨-1,Yd.succ ?_,by omega,fun h=>by omega⟩;simp only [hl];exact Yd.cp (kZ (by omega)) (Yd.rq (HT (by omega) (by omega)) (Yd.bind k1 (Yd.cp (kZ c) Yd.pure)))
  ·obtain ⟨v,q1,q2,q3⟩:=ih (i+1) r (by omega) (by omega) (by omega);refine ⟨v,Yd.succ ?_,by omega,fun hv j h1 h2=>?_⟩
   ·simp only [hl];refine Yd.cp (kZ (by omega)) (Yd.rq (HT (by omega) (by omega)) (Yd.bind k1 (Yd.cn (e9 c) ?_)));rw [s9 (by omega) (by omega)]
    exact_mod_cast q1
   ·by_cases e:j=i
    ·subst e;rw [← LB (d:=d) h2];exact k3 (by omega)
    ·exact q3 hv j (by omega) h2
theorem Ib {F:Nat→α→Int→Option Int} {l:Nat→Int→Int→Option Int} (hx:x.length≤maxLen) (hn:n≤1048576) (h0:0≤n)
  (hl:∀ k v i,l (k+1) v i=cond (bM i (x.length:Int)) (bE (bW i x.length) ((F k (nth d x i) v).bind fun r=>cond (bM r 0) (some (-1)) (l k r (aN .i64 i 1)))) (some v))
  (hF:∀ y,y∈x→∀ n,0≤n→n≤1048576→iC (fun k=>F k y n) n (p y)):
  iC (fun k=>cond (bM (bS .i64 n (x.length:Int)) 0) (some (-1)) (l k (bS .i64 n (x.length:Int)) 0)) n (k_ p x):=by
 refine iC.str h0 hn hx fun a1 a2 a3=>?_;obtain ⟨v,q1,q2,q3⟩:=Zx (p:=p) hx hl hF x.length 0 _ (by omega) a2 a1;refine ⟨v,by exact_mod_cast q1,q2,fun hv=>⟨a3,fun y hy=>?_⟩⟩;obtain ⟨j,hj,rfl⟩:=List.getElem_of_mem hy;exact q3 hv j (Nat.zero_le _) hj
theorem UE {o:List α} {i:Int} {y:α}:(nQ o i y).length=o.length:=by simp [nQ]
theorem SC {F:Nat→α→Option α} {l:Nat→Int→List α→Option (List α)} (hx:x.length≤maxLen)
  (hl:∀ k i o,l (k+1) i o=cond (bM i (x.length:Int)) (bE (bW i x.length) ((F k (nth d x i)).bind fun r=>bE (bW i o.length) (l k (aN .i64 i 1) (nQ o i r)))) (some o))
  (hF:∀ y,y∈x→Yd (fun k=>F k y) y):∀ (m i:Nat) (o:List α),i+m=x.length→o.length=x.length→o.take i=x.take i→Yd (fun k=>l k (i:Int) o) x
 | 0,i,o,h,hlen,ht=>by
  refine Yd.succ ?_;simp only [hl];refine Yd.cn (e9 (by omega)) (Yd.to Yd.pure ?_);rw [List.take_of_length_le (by omega),List.take_of_length_le (by omega)] at ht;rw [ht]
 | m+1,i,o,h,hlen,ht=>by
  have hi:i < x.length:=by omega
  refine Yd.succ ?_;simp only [hl];refine Yd.cp (kZ (by omega)) (Yd.rq (HT (by omega) (by omega)) (Yd.bind (hF _ (QR hi)) (Yd.rq (HT (by omega) (by omega)) ?_)));rw [s9 (by omega) (by have:=max_eq;omega)];have Xy:(nQ o (i:Int) (nth d x (i:Int))).take (i+1)=x.take (i+1):=by
   rw [List.take_succ_eq_append_getElem (by simp [nQ];omega),List.take_succ_eq_append_getElem hi];simp only [nQ,Int.toNat_natCast];rw [List.take_set_of_le (Nat.le_refl _),ht,LB hi];simp
  exact_mod_cast SC hx hl hF m (i+1) _ (by omega) (by rw [UE];exact hlen) Xy
theorem VQ {l:Nat} {b:Nat} (hx:l≤1048576) (hb:b≤100000):Gf (l:Int) (l:Int) b=true:=by
 have h1:(l:Int)*(b:Int)≤1048576*100000:=Int.mul_le_mul (by omega) (by omega) (by omega) (by omega);simp only [Gf,Bool.and_eq_true,decide_eq_true_eq];exact ⟨by omega,by omega,by omega,by omega⟩
theorem MT {F:Nat→α→Option α} {l:Nat→Int→List α→Option (List α)} {z:α} {b:Nat} (hx:x.length≤1048576) (hb:b≤100000)
  (hl:∀ k i o,l (k+1) i o=cond (bM i (x.length:Int)) (bE (bW i x.length) ((F k (nth d x i)).bind fun r=>bE (bW i o.length) (l k (aN .i64 i 1) (nQ o i r)))) (some o))
  (hF:∀ y,y∈x→Yd (fun k=>F k y) y):
  Yd (fun k=>bE (Gf (x.length:Int) (x.length:Int) b) (l k 0 (List.replicate (Int.toNat (x.length:Int)) z))) x:=
 Yd.rq (VQ hx hb) (by exact_mod_cast SC (by have:=max_eq;omega) hl hF x.length 0 _ (by omega) (by simp) (by simp))
theorem QS {β:Type} {F:Nat→α→Option β} {g:β→α} (t:α→β) {l:Nat→Int→List α→Option (List α)} {z:α} {b:Nat} (hx:x.length≤1048576) (hb:b≤100000)
  (hl:∀ k i o,l (k+1) i o=cond (bM i (x.length:Int)) (bE (bW i x.length) ((F k (nth d x i)).bind fun r=>bE (bW i o.length) (l k (aN .i64 i 1) (nQ o i (g r))))) (some o))
  (hF:∀ y,y∈x→Yd (fun k=>F k y) (t y)) (hg:∀ y,g (t y)=y):
  Yd (fun k=>bE (Gf (x.length:Int) (x.length:Int) b) (l k 0 (List.replicate (Int.toNat (x.length:Int)) z))) x:=by
 refine MT (d:=d) (F:=fun k y=>(F k y).map g) hx hb (fun k i o=>?_) fun y hy=>?_
 ·rw [hl];cases F k (nth d x i)<;>rfl
 ·obtain ⟨K,hK⟩:=hF y hy;refine ⟨K,fun k hk=>?_⟩;simp only [hK k hk,Option.map_some,hg]
theorem SD {F:Nat→α→α→Option Bool} {l:Nat→Int→Option Bool} (hx:x.length≤maxLen)
  (hl:∀ k i,l (k+1) i=cond (bM i (x.length:Int)) (bE (bW i x.length) (bE (bW i x.length) ((F k (nth d x i) (nth d x i)).bind fun r=>cond (!r) (some false) (l k (aN .i64 i 1))))) (some true))
  (hF:∀ y,y∈x→Yd (fun k=>F k y y) true):∀ m i:Nat,i+m=x.length→Yd (fun k=>l k (i:Int)) true
 | 0,i,h=>by
  refine Yd.succ ?_;simp only [hl];exact Yd.cn (e9 (by omega)) Yd.pure
 | m+1,i,h=>by
  refine Yd.succ ?_;simp only [hl];refine Yd.cp (kZ (by omega)) (Yd.rq (HT (by omega) (by omega)) (Yd.rq (HT (by omega) (by omega)) (Yd.bind (hF _ (QR (by omega))) (Yd.cn (by simp) ?_))));rw [s9 (by omega) (by have:=max_eq;omega)]
  exact_mod_cast SD hx hl hF m (i+1) (by omega)
theorem Ga {F:Nat→α→α→Option Bool} {l:Nat→Int→Option Bool} (hx:x.length≤maxLen)
  (hl:∀ k i,l (k+1) i=cond (bM i (x.length:Int)) (bE (bW i x.length) (bE (bW i x.length) ((F k (nth d x i) (nth d x i)).bind fun r=>cond (!r) (some false) (l k (aN .i64 i 1))))) (some true))
  (hF:∀ y,y∈x→Yd (fun k=>F k y y) true):
  Yd (fun k=>cond (!bI (x.length:Int) (x.length:Int)) (some false) (l k 0)) true:=
 Yd.cn (by simp [bI]) (by exact_mod_cast SD hx hl hF x.length 0 (by omega))
end
end Go.Proofs.YtjkbbdldmdajkaaGreatDoor.Pu
