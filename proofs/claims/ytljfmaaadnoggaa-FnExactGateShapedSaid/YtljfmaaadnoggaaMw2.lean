/- Plain words and laws. No condition. -/
import Derived.Test.YtljfmaaadnoggaaMw1
set_option linter.unusedSimpArgs false
set_option linter.unusedVariables false
namespace Go.Proofs.Ytljfmaaadnoggaa.Pu
open Go Go.RowKit Go.Proofs.Ytljfmaaadnoggaa.Abs Go.Proofs.Ytljfmaaadnoggaa.Fn
section
variable {α R:Type} {x:List α} {B:Nat}
def alli (p:Nat→α→Bool):Nat→List α→Bool
 | _,[]=>true
 | i,a::r=>p i a&&alli p (i+1) r
theorem loop_alli {p:Nat→α→Bool} {l:Nat→Int→R} {E O:R} (he:∀ k,l (k+1) (x.length:Int)=E)
  (h:∀ k i (hi:i < x.length),B≤k→l (k+1) (i:Int)=cond (p i x[i]) (l k ((i+1:Nat):Int)) O) (k:Nat) (hk:B+x.length+1≤k):l k 0=cond (alli p 0 x) E O:=by
 have go:∀ m i k,i+m=x.length→B+m+1≤k→l k (i:Int)=cond (alli p i (x.drop i)) E O:=by
  intro m
  induction m with
  | zero=>
   intro i k h1 h2
   obtain rfl:i=x.length:=by omega
   obtain ⟨k,rfl⟩:∃ j,k=j+1:=⟨k-1,by omega⟩
   simp [he,alli]
  | succ m ih=>
   intro i k h1 h2
   obtain ⟨k,rfl⟩:∃ j,k=j+1:=⟨k-1,by omega⟩
   have hi:i < x.length:=by omega
   rw [h k i hi (by omega),List.drop_eq_getElem_cons hi]
   simp only [alli]
   cases p i x[i] with
   | true=>simpa using ih (i+1) k (by omega) (by omega)
   | false=>rfl
 have:=go x.length 0 k (by omega) (by omega)
 simpa using this
end
def distF:List (List UInt8)→List GateField→Bool
 | _,[]=>true
 | q,f::r=>!(q.any fun y=>seq y f.Name)&&distF (q++[f.Name]) r
def shapeOk (ks:List (List UInt8)) (s:GateShape):Bool:=ile (s.Fields.length:Int) 6&&(s.Fields.all (fieldOk ks)&&distF [] s.Fields)
def shapesOk (xs:List GateShape):Bool:=ile (xs.length:Int) 6&&(ascend (kinds xs)&&xs.all (shapeOk (kinds xs)))
theorem alli_dist {p:GateField→Bool}:∀ (r pre:List GateField),alli (fun i f=>p f&&!(((pre++r).take i).any fun g=>seq g.Name f.Name)) pre.length r=(r.all p&&distF (pre.map (·.Name)) r)
 | [],_=>rfl
 | f::r,pre=>by
  have ih:=alli_dist (p:=p) r (pre++[f])
  simp only [List.append_assoc,List.singleton_append,List.length_append,List.length_cons,List.length_nil,List.map_append,List.map_cons,List.map_nil] at ih
  simp only [alli,distF,List.all_cons]
  rw [ih,List.take_left]
  have e:(pre.any fun g=>seq g.Name f.Name)=((pre.map (·.Name)).any fun y=>seq y f.Name):=by rw [List.any_map];rfl
  rw [e]
  cases p f<;>cases (pre.map (·.Name)).any fun y=>seq y f.Name<;>cases r.all p<;>rfl
theorem spec_L15 {k:Nat} {xs:List GateShape} {i:Int} {q:Nat} {s:GateShape} {J:List GateShape→Int→Int→GateShape→Option Bool} (hq:q < s.Fields.length) (hs:s.Fields.length≤1048576) (hk:4194304≤k):
  iter (ts:=spec_GateShapesOk_L15_ts) (R:=Bool) k (spec_GateShapesOk_L15 J) xs i (q:Int) (0:Int) s=cond ((s.Fields.take q).any fun g=>seq g.Name s.Fields[q].Name) (some false) (J xs i q s):=by
 have hl:(s.Fields.take q).length=q:=by simp;omega
 refine loop_any (x:=s.Fields.take q) (p:=fun g=>seq g.Name s.Fields[q].Name) (B:=0) (l:=fun k j=>iter (ts:=spec_GateShapesOk_L15_ts) (R:=Bool) k (spec_GateShapesOk_L15 J) xs i (q:Int) j s)
  (fun k=>by simp only [iter,spec_GateShapesOk_L15,hl,ilt_e,cond_false]<;>rfl)
  (fun k j hj _=>?_) k (by omega)
 rw [hl] at hj
 have hj':j < s.Fields.length:=by omega
 simp only [iter,spec_GateShapesOk_L15,ilt_n hj,inb_n hj',inb_n hq,cond_true,req_t,nth_i hj',nth_i hq,iadd_n (n:=q) (by omega) hj,List.getElem_take]<;>rfl
theorem spec_L10 {k:Nat} {xs:List GateShape} {i:Int} {s:GateShape} {J:List GateShape→Int→Option Bool} (hx:xs.length≤1048576) (hs:s.sd) (hk:4194304*3≤k):
  iter (ts:=spec_GateShapesOk_L10_ts) (R:=Bool) k (spec_GateShapesOk_L10 J) xs i (0:Int) s=cond (s.Fields.all (fieldOk (kinds xs))&&distF [] s.Fields) (J xs i) (some false):=by
 have h:=loop_alli (x:=s.Fields) (p:=fun q f=>fieldOk (kinds xs) f&&!((s.Fields.take q).any fun g=>seq g.Name f.Name)) (B:=4194304*2) (l:=fun k q=>iter (ts:=spec_GateShapesOk_L10_ts) (R:=Bool) k (spec_GateShapesOk_L10 J) xs i q s) (E:=J xs i) (O:=some false)
  (fun k=>by simp only [iter,spec_GateShapesOk_L10,ilt_e,cond_false]<;>rfl)
  (fun k q hq hb=>by
   simp only [iter,spec_GateShapesOk_L10,share,ilt_n hq,inb_n hq,cond_true,req_t,nth_i hq,l1FieldOk_e (show 8388608≤k by omega) hx (hs.2.2 _ (mem_i hq)),Option.bind_some]
   cases fieldOk (kinds xs) s.Fields[q] with
   | false=>rfl
   | true=>
    simp only [Bool.not_true,cond_false,Bool.true_and]
    refine (spec_L15 hq hs.2.1 (by omega)).trans ?_
    rw [iadd_n hs.2.1 hq]
    cases (s.Fields.take q).any fun g=>seq g.Name s.Fields[q].Name<;>rfl) k (by have:=hs.2.1;omega)
 have e:=alli_dist (p:=fieldOk (kinds xs)) s.Fields []
 simp only [List.nil_append,List.length_nil,List.map_nil] at e
 rw [e] at h
 exact h
theorem specShapesOk_e {k:Nat} {xs:List GateShape} (hx:sdS GateShape.sd xs) (hk:4194304*4≤k):spec_GateShapesOk k xs=some (shapesOk xs):=by
 unfold spec_GateShapesOk
 have h:=loop_chain (x:=xs) (p:=fun o s=>ascP (o.map (·.Kind)) s.Kind&&shapeOk (kinds xs) s) (B:=4194304*3) (l:=fun k i=>iter (ts:=spec_GateShapesOk_L4_ts) (R:=Bool) k (spec_GateShapesOk_L4 (some true)) xs i) (E:=some true) (O:=some false)
  (fun k=>by simp only [iter,spec_GateShapesOk_L4,ilt_e,cond_false]<;>rfl)
  (fun k i hi hb=>by
   have hsi:=hx.2 _ (mem_i hi)
   simp only [iter,spec_GateShapesOk_L4,share,ilt_n hi,inb_n hi,cond_true,req_t,nth_i hi,l1NameOk_e (show 4194304≤k by omega) hsi.1,Option.bind_some,iadd_n hx.1 hi]
   have fin:∀ c:Bool,cond c (some false) (iter (ts:=spec_GateShapesOk_L10_ts) (R:=Bool) k (spec_GateShapesOk_L10 fun v603 v604=>iter (ts:=spec_GateShapesOk_L4_ts) (R:=Bool) k (spec_GateShapesOk_L4 (some true)) v603 (iadd .i64 v604 1)) xs (i:Int) (0:Int) xs[i]) =
     cond (!c&&(xs[i].Fields.all (fieldOk (kinds xs))&&distF [] xs[i].Fields)) (iter (ts:=spec_GateShapesOk_L4_ts) (R:=Bool) k (spec_GateShapesOk_L4 (some true)) xs ((i+1:Nat):Int)) (some false):=by
    intro c
    cases c with
    | true=>rfl
    | false=>
     refine (spec_L10 hx.1 hsi (by omega)).trans ?_
     rw [iadd_n hx.1 hi]
     rfl
   simp only [ascP,shapeOk,← not_ilt]
   rcases Nat.eq_zero_or_pos i with rfl | h0
   ·simp only [ilt_00,ahead_0]
    cases nameOk xs[0].Kind with
    | false=>exact (fin true).trans rfl
    | true=>exact fin _
   ·have hi':i-1 < xs.length:=by omega
    simp only [ilt_0 h0,isub_n h0 (by have:=hx.1;omega),inb_n hi',cond_true,req_t,nth_i hi',ahead_s h0 hi,Option.map_some]
    cases nameOk xs[i].Kind with
    | false=>exact (fin true).trans rfl
    | true=>
     cases slt xs[i-1].Kind xs[i].Kind with
     | false=>exact (fin true).trans rfl
     | true=>exact fin _) k (by have:=hx.1;omega)
 simp only [share]
 have e1:chain (fun o s=>ascP (o.map (·.Kind)) s.Kind&&shapeOk (kinds xs) s) none xs=(ascend (kinds xs)&&xs.all (shapeOk (kinds xs))):=by
  rw [chain_and,chain_all]
  congr 1
  exact (chain_map (f:=GateShape.Kind) (p:=ascP) xs none).symm
 rw [e1] at h
 simp only [shapesOk,ilt_not]
 cases ile (xs.length:Int) 6 with
 | false=>rfl
 | true=>exact h.trans (by cases ascend (kinds xs)&&xs.all (shapeOk (kinds xs))<;>rfl)
theorem linkSound_e {k:Nat} {f:GateField} {ks:List (List UInt8)} (hk:4194304≤k) (hx:ks.length≤1048576) (h4:ieq f.Kind 4=true):impl_linkField_sound k ⟨f⟩ ks=some (sound ks f):=by
 unfold impl_linkField_sound
 simp only [share]
 have h:=fun J:NumberField→Bool→Option Bool=>loop_fold (S:=Bool) (x:=ks) (f:=fun (t:Bool) y=>t||seq y f.To) (B:=0) (l:=fun k t i=>iter (ts:=impl_linkField_sound_L3_ts) (R:=Bool) k (impl_linkField_sound_L3 J) ⟨f⟩ t ks (ks.length:Int) i) (J:=fun t=>J ⟨f⟩ t) (fun _ _=>True)
  (fun k t _=>by simp only [iter,impl_linkField_sound_L3,ilt_e,cond_false]<;>rfl)
  (fun k i t hi _ _=>⟨by simp only [iter,impl_linkField_sound_L3,share,ilt_n hi,inb_n hi,cond_true,req_t,nth_i hi,iadd_n hx hi];cases t<;>rfl,trivial⟩) k false (by omega) trivial
 have e:∀ (y:List (List UInt8)) (t:Bool),y.foldl (fun (t:Bool) y=>t||seq y f.To) t=(t||y.any fun k=>seq k f.To):=by
  intro y
  induction y with
  | nil=>intro t;simp
  | cons a r ih=>intro t;rw [List.foldl_cons,ih,List.any_cons,Bool.or_assoc]
 refine (h _).trans ?_
 rw [e]
 have e1:=ieq_f h4 (c:=1) (by decide)
 have e2:=ieq_f h4 (c:=2) (by decide)
 have e3:=ieq_f h4 (c:=3) (by decide)
 simp only [e,sound,e1,e2,e3,h4,Bool.false_or]
 cases ks.any fun k=>seq k f.To<;>cases ile 1 f.Role<;>cases ile f.Role 3<;>cases seq f.Default []<;>cases ieq f.Role 2<;>cases f.Must<;>rfl
def seen1 (n:List UInt8) (m:List Pair):Int:=mget (fun p:Pair=>seq n p.Key) (fun p:Pair=>p.Val) (0:Int) m
def see (n:List UInt8) (m:List Pair):List Pair:=mput (fun p:Pair=>seq n p.Key) m ⟨n,iadd .i64 (seen1 n m) 1⟩
theorem seen1_see (n n':List UInt8) (m:List Pair):seen1 n' (see n m)=cond (seq n' n) (iadd .i64 (seen1 n m) 1) (seen1 n' m):=mget_mput (key:=Pair.Key) (y:=⟨n,iadd .i64 (seen1 n m) 1⟩)
def stepS (ks:List (List UInt8)) (m:List Pair) (_:Nat) (f:GateField):List Pair ⊕ Option Bool:=cond (fieldOk ks f&&!ilt 1 (seen1 f.Name (see f.Name m))) (.inl (see f.Name m)) (.inr (some false))
theorem scanS (ks:List (List UInt8)):∀ (r:List GateField) (i:Nat) (m:List Pair) (q:List (List UInt8)),(∀ n,seen1 n m=if q.any (fun y=>seq y n) then 1 else 0)→fin (fun _=>some true) (scan (stepS ks) r i m)=some (r.all (fieldOk ks)&&distF q r)
 | [],_,_,_,_=>rfl
 | f::r,i,m,q,h=>by
  simp only [scan,stepS,List.all_cons,distF]
  have e0:seen1 f.Name (see f.Name m)=iadd .i64 (seen1 f.Name m) 1:=by rw [seen1_see,seq_self];rfl
  rw [e0,h f.Name]
  cases fieldOk ks f with
  | false=>rfl
  | true=>
   cases hq:q.any fun y=>seq y f.Name with
   | true=>
    simp only [if_true]
    rw [show (iadd .i64 (1:Int) 1)=2 from rfl,show ilt 1 2=true from rfl]
    simp [fin]
   | false=>
    simp only [Bool.false_eq_true,if_false]
    rw [show (iadd .i64 (0:Int) 1)=1 from rfl,show ilt 1 1=false from rfl]
    simp only [Bool.not_false,Bool.and_true,cond_true,Bool.true_and]
    refine scanS ks r (i+1) _ (q++[f.Name]) fun n=>?_
    rw [seen1_see,h f.Name,h n,hq,List.any_append]
    cases hn:seq n f.Name with
    | true=>
     have e:=seq_iff.1 hn
     subst e
     simp [seq_self];rfl
    | false=>
     rw [show (([f.Name]:List (List UInt8)).any fun y=>seq y n)=false by simp [seq_comm f.Name n,hn],Bool.or_false];rfl
set_option maxHeartbeats 1000000 in
theorem implShapeOk_e {k:Nat} {s:GateShape} {ks:List (List UInt8)} (hs:s.sd) (hks:ks.length≤1048576) (hk:4194304*4≤k):impl_shapeOk k s ks=some (shapeOk ks s):=by
 unfold impl_shapeOk
 have h:=loop_scan (S:=List Pair) (R:=Option Bool) (x:=s.Fields) (f:=stepS ks) (B:=4194304*3) (l:=fun k m i=>iter (ts:=impl_shapeOk_L5_ts) (R:=Bool) k (impl_shapeOk_L5 (some true)) ks s.Fields (s.Fields.length:Int) i m) (J:=fun _=>some true) (fun _ _=>True)
  (fun k m _=>by simp only [iter,impl_shapeOk_L5,ilt_e,cond_false]<;>rfl)
  (fun k i m hi hb _=>⟨by
   obtain ⟨f1,-,-,-,f5,-,-,-,-,f10,f11⟩:=hs.2.2 _ (mem_i hi)
   have hk1:4194304≤k:=by omega
   have hk2:8388608≤k:=by omega
   simp only [iter,impl_shapeOk_L5,share,ilt_n hi,inb_n hi,cond_true,req_t,nth_i hi,iadd_n hs.2.1 hi,isName_e hk1 f1,Option.bind_some]
   have em:(mput (fun p:Pair=>seq s.Fields[i].Name p.Key) m (⟨s.Fields[i].Name,(iadd .i64 (mget (fun p:Pair=>seq s.Fields[i].Name p.Key) (fun p:Pair=>p.Val) (0:Int) m) (1:Int))⟩:Pair))=see s.Fields[i].Name m:=rfl
   have es:mget (fun p:Pair=>seq s.Fields[i].Name p.Key) (fun p:Pair=>p.Val) (0:Int) (see s.Fields[i].Name m)=seen1 s.Fields[i].Name (see s.Fields[i].Name m):=rfl
   simp only [em,es]
   unfold stepS fieldOk
   generalize see s.Fields[i].Name m=m'
   generalize iter (ts:=impl_shapeOk_L5_ts) (R:=Bool) k (impl_shapeOk_L5 (some true))=rec
   generalize hF:s.Fields[i]=f at *
   cases nameOk f.Name with
   | false=>rfl
   | true=>
    simp only [Bool.not_true,cond_false,Bool.true_and,impl_sortOf,impl_sortOf_1,impl_sortOf_2,impl_sortOf_3,impl_sortOf_4,Option.bind_some]
    cases ilt 1 (seen1 f.Name m') with
    | true=>simp [fin]<;>rfl
    | false=>
     simp only [cond_false,Bool.not_false,Bool.and_true]
     cases k1:ieq f.Kind 1 with
     | true=>
      simp only [cond_true,Option.bind_some,sumC,impl_numberField_clean,impl_numberField_sound,implFits_e hk1 f5.1 f10,isName_e hk1 f11,bare,sound,k1]
      cases ieq (f.Words.length:Int) 0<;>cases seq f.To []<;>cases ieq f.Role 0<;>cases ile 0 f.Least<;>cases ile f.Least f.Most<;>cases ile f.Most 1000000<;>cases seq f.Weighs []<;>cases nameOk f.Weighs<;>cases seq f.Default []<;>cases fits f f.Default<;>rfl
     | false=>
      simp only [cond_false]
      cases k2:ieq f.Kind 2 with
      | true=>
       simp only [cond_true,Option.bind_some,sumC,impl_wordField_clean,impl_wordField_sound,implFits_e hk1 f5.1 f10,ascendingNames_e hk2 f5,bare,sound,k1,k2]
       cases ieq f.Least 0<;>cases ieq f.Most 0<;>cases seq f.To []<;>cases ieq f.Role 0<;>cases seq f.Weighs []<;>cases ile 1 (f.Words.length:Int)<;>cases ile (f.Words.length:Int) 6<;>cases ascend f.Words<;>cases seq f.Default []<;>cases fits f f.Default<;>rfl
      | false=>
       simp only [cond_false]
       cases k3:ieq f.Kind 3 with
       | true=>
        simp only [cond_true,Option.bind_some,sumC,impl_textField_clean,impl_textField_sound,implFits_e hk1 f5.1 f10,bare,sound,k1,k2,k3]
        cases ieq (f.Words.length:Int) 0<;>cases seq f.To []<;>cases ieq f.Role 0<;>cases seq f.Weighs []<;>cases ile 1 f.Least<;>cases ile f.Least f.Most<;>cases ile f.Most 40<;>cases seq f.Default []<;>cases fits f f.Default<;>rfl
       | false=>
        simp only [cond_false]
        cases k4:ieq f.Kind 4 with
        | true=>
         simp only [cond_true,Option.bind_some,sumC,impl_linkField_clean,linkSound_e hk1 hks k4,implFits_e hk1 f5.1 f10]
         generalize sound ks f=sd
         simp only [bare,k1,k2,k3,k4]
         cases ieq f.Least 0<;>cases ieq f.Most 0<;>cases ieq (f.Words.length:Int) 0<;>cases seq f.Weighs []<;>cases sd<;>cases seq f.Default []<;>cases fits f f.Default<;>rfl
        | false=>rw [bare_k k1 k2 k3 k4];rfl,fun _ _=>trivial⟩) k [] (by have:=hs.2.1;omega) trivial
 simp only [share,shapeOk,ilt_not]
 cases ile (s.Fields.length:Int) 6 with
 | false=>rfl
 | true=>exact h.trans (by rw [scanS ks s.Fields 0 [] [] fun n=>rfl];rfl)
theorem implShapesOk_e {k:Nat} {xs:List GateShape} (hx:sdS GateShape.sd xs) (hk:4194304*5≤k):impl_GateShapesOk k xs=some (shapesOk xs):=by
 unfold impl_GateShapesOk
 have hkinds:sdS sdStr (kinds xs):=⟨by simp only [kinds,List.length_map];exact hx.1,fun y hy=>by
  obtain ⟨s,h1,rfl⟩:=List.mem_map.1 hy
  exact (hx.2 s h1).1⟩
 have h1:=fun (J:List GateShape→List (List UInt8)→Option Bool)=>loop_fold (S:=List (List UInt8)) (x:=xs) (f:=fun (q:List (List UInt8)) s=>q++[s.Kind]) (B:=0) (l:=fun k q i=>iter (ts:=impl_GateShapesOk_L5_ts) (R:=Bool) k (impl_GateShapesOk_L5 J) xs xs (xs.length:Int) i q) (J:=fun q=>J xs q) (fun i q=>q.length=i)
  (fun k q _=>by simp only [iter,impl_GateShapesOk_L5,ilt_e,cond_false]<;>rfl)
  (fun k i q hi _ hq=>⟨by
   have:=hx.1
   simp only [iter,impl_GateShapesOk_L5,ilt_n hi,inb_n hi,cond_true,req_t,nth_i hi,iadd_n hx.1 hi]
   rw [appB_t (by simp;omega) (by omega)];rfl,by simp [hq]⟩) k [] (by have:=hx.1;omega) rfl
 have e:∀ (y:List GateShape) (q:List (List UInt8)),y.foldl (fun (q:List (List UInt8)) s=>q++[s.Kind]) q=q++kinds y:=by
  intro y
  induction y with
  | nil=>intro q;simp [kinds]
  | cons a r ih=>intro q;rw [List.foldl_cons,ih];simp [kinds]
 have h2:=loop_all (x:=xs) (p:=shapeOk (kinds xs)) (B:=4194304*4) (l:=fun k i=>iter (ts:=impl_GateShapesOk_L12_ts) (R:=Bool) k (impl_GateShapesOk_L12 (some true)) xs (xs.length:Int) i (kinds xs)) (E:=some true) (O:=some false)
  (fun k=>by simp only [iter,impl_GateShapesOk_L12,ilt_e,cond_false]<;>rfl)
  (fun k i hi hb=>by
   simp only [iter,impl_GateShapesOk_L12,ilt_n hi,inb_n hi,cond_true,req_t,nth_i hi,iadd_n hx.1 hi,implShapeOk_e (hx.2 _ (mem_i hi)) hkinds.1 hb,Option.bind_some]
   cases shapeOk (kinds xs) xs[i]<;>rfl) k (by have:=hx.1;omega)
 simp only [share,shapesOk,ilt_not]
 cases hl:ile (xs.length:Int) 6 with
 | false=>rfl
 | true=>
  rw [show mkB (0:Int) (xs.length:Int) 16=true by
   simp only [mkB,Bool.and_eq_true,decide_eq_true_eq];have:=hx.1;omega]
  simp only [Bool.not_true,cond_false,req_t]
  refine (h1 _).trans ?_
  rw [e,List.nil_append]
  simp only [ascendingNames_e (show 8388608≤k by omega) hkinds,Option.bind_some,h2]
  cases ascend (kinds xs)<;>cases xs.all (shapeOk (kinds xs))<;>rfl
theorem ieq_comm (a b:Int):ieq a b=ieq b a:=by
 rw [Bool.eq_iff_iff];simp only [ieq,beq_iff_eq];exact eq_comm
theorem fidx_gidx (to:List UInt8):∀ (xs:List GateShape) (i:Nat),fidx to xs i=gidx (fun s=>seq s.Kind to) xs i
 | [],_=>rfl
 | s::r,i=>by simp only [fidx,gidx,fidx_gidx to r]
theorem shapeOf_e {k:Nat} {xs:List GateShape} {n:List UInt8} (hk:4194304≤k) (hx:xs.length≤1048576):impl_shapeOf k xs n=some (gidx (fun s=>seq s.Kind n) xs 0):=by
 unfold impl_shapeOf
 simp only [share]
 exact loop_gidx (x:=xs) (p:=fun s=>seq s.Kind n) (l:=fun k i=>iter (ts:=impl_shapeOf_L2_ts) (R:=Int) k (impl_shapeOf_L2 (some (-1))) n xs (xs.length:Int) i)
  (fun k=>by simp only [iter,impl_shapeOf_L2,ilt_e,cond_false]<;>rfl)
  (fun k i hi=>by simp only [iter,impl_shapeOf_L2,ilt_n hi,inb_n hi,cond_true,req_t,nth_i hi,iadd_n hx hi]<;>rfl) k (by omega)
def fieldsM (xs:List GateShape) (o:GateObject):Option (List GateField):=match xs.find? fun s=>seq s.Kind o.Kind with
 | some s=>cond (ieq (s.Fields.length:Int) (o.Values.length:Int)) (some s.Fields) none
 | none=>none
theorem fieldsM_some {xs:List GateShape} {o:GateObject} {fs:List GateField} (h:fieldsM xs o=some fs):fs.length=o.Values.length∧∃ s,s∈xs∧s.Fields=fs:=by
 unfold fieldsM at h
 cases hf:xs.find? fun s=>seq s.Kind o.Kind with
 | none=>rw [hf] at h;cases h
 | some s=>
  rw [hf] at h
  simp only at h
  cases he:ieq (s.Fields.length:Int) (o.Values.length:Int) with
  | false=>rw [he] at h;cases h
  | true=>
   rw [he] at h
   cases h
   simp only [ieq,beq_iff_eq] at he
   exact ⟨by omega,s,List.mem_of_find?_eq_some hf,rfl⟩
theorem specFields_e {k:Nat} {xs:List GateShape} {o:GateObject} (hk:4194304≤k) (hx:xs.length≤1048576):spec_l2Fields k xs o=some ((fieldsM xs o).getD [],(fieldsM xs o).isSome):=by
 unfold spec_l2Fields fieldsM
 rw [l1Shape_e hk hx,fidx_gidx]
 simp only [share,Option.bind_some]
 rcases gidx_find (fun s:GateShape=>seq s.Kind o.Kind) xs with ⟨h1,h2⟩ | ⟨j,hj,h1,h2,_⟩
 ·rw [h1,h2];rfl
 ·rw [h1,h2,ilt_f (by omega),inb_n hj,nth_i hj]
  simp only
  cases ieq (xs[j].Fields.length:Int) (o.Values.length:Int)<;>rfl
theorem implFields_e {k:Nat} {xs:List GateShape} {o:GateObject} (hk:4194304≤k) (hx:xs.length≤1048576):impl_fieldsOf k xs o=some ((fieldsM xs o).getD [],(fieldsM xs o).isSome):=by
 unfold impl_fieldsOf fieldsM
 rw [shapeOf_e hk hx]
 simp only [share,Option.bind_some]
 rcases gidx_find (fun s:GateShape=>seq s.Kind o.Kind) xs with ⟨h1,h2⟩ | ⟨j,hj,h1,h2,_⟩
 ·rw [h1,h2];rfl
 ·rw [h1,h2,ilt_f (by omega),inb_n hj,nth_i hj,ieq_comm (o.Values.length:Int)]
  simp only
  cases ieq (xs[j].Fields.length:Int) (o.Values.length:Int)<;>rfl
def formO (xs:List GateShape) (o:GateObject):Bool:=(fieldsM xs o).isSome&&(nameOk o.Name&&(nameOk o.Team&&(ile (o.Holds.length:Int) 3&&(ascend o.Holds&&(ile 0 o.Version&&ile o.Version 1000000)))))
def badV (vs:List (List UInt8)) (i:Nat) (f:GateField):Option (Int×Int):=
 cond (seq (vs.getD i []) []) (cond f.Must (some (2,(i:Int))) none) (cond (fits f (vs.getD i [])) none (some (3,(i:Int))))
def checkM (xs:List GateShape) (o:GateObject):Int×Int:=
 cond (shapesOk xs&&formO xs o) ((first (badV o.Values) ((fieldsM xs o).getD []) 0).getD (0,0)) (1,0)
theorem getD_i {α:Type} {d:α} {x:List α} {i:Nat} (h:i < x.length):x.getD i d=x[i]:=by simp [List.getD,h]
theorem l3Field_e {k:Nat} {fs:List GateField} {n:List UInt8} (hk:4194304≤k) (hx:fs.length≤1048576):spec_l3Field k fs n=some (gidx (fun f=>seq f.Name n) fs 0):=by
 unfold spec_l3Field
 simp only [share]
 exact loop_gidx (x:=fs) (p:=fun f=>seq f.Name n) (l:=fun k i=>iter (ts:=spec_l3Field_L2_ts) (R:=Int) k (spec_l3Field_L2 (some (-1))) fs n i)
  (fun k=>by simp only [iter,spec_l3Field_L2,ilt_e,cond_false]<;>rfl)
  (fun k i hi=>by simp only [iter,spec_l3Field_L2,ilt_n hi,inb_n hi,cond_true,req_t,nth_i hi,iadd_n hx hi]<;>rfl) k (by omega)
theorem placeOf_e {k:Nat} {fs:List GateField} {n:List UInt8} (hk:4194304≤k) (hx:fs.length≤1048576):impl_placeOf k fs n=some (gidx (fun f=>seq f.Name n) fs 0):=by
 unfold impl_placeOf
 simp only [share]
 exact loop_gidx (x:=fs) (p:=fun f=>seq f.Name n) (l:=fun k i=>iter (ts:=impl_placeOf_L2_ts) (R:=Int) k (impl_placeOf_L2 (some (-1))) n fs (fs.length:Int) i)
  (fun k=>by simp only [iter,impl_placeOf_L2,ilt_e,cond_false]<;>rfl)
  (fun k i hi=>by simp only [iter,impl_placeOf_L2,ilt_n hi,inb_n hi,cond_true,req_t,nth_i hi,iadd_n hx hi]<;>rfl) k (by omega)
def fieldN (fs:List GateField) (n:List UInt8):Option GateField:=fs.find? fun f=>seq f.Name n
def plainN (fs:List GateField) (n:List UInt8):Bool:=match fieldN fs n with
 | some f=>!ieq f.Kind 4
 | none=>false
theorem l3Plain_e {k:Nat} {fs:List GateField} {n:List UInt8} (hk:4194304≤k) (hx:fs.length≤1048576):spec_l3Plain k fs n=some (plainN fs n):=by
 unfold spec_l3Plain
 rw [l3Field_e hk hx]
 simp only [Option.bind_some,plainN,fieldN]
 rcases gidx_find (fun f:GateField=>seq f.Name n) fs with ⟨h1,h2⟩ | ⟨j,hj,h1,h2,_⟩
 ·rw [h1,h2];rfl
 ·rw [h1,h2,ile_t (by omega),inb_n hj,nth_i hj];rfl
theorem mendOk1_e {k:Nat} {fs:List GateField} {n:List UInt8} (hk:4194304≤k) (hx:fs.length≤1048576):impl_mendOk_1 k n fs=some (plainN fs n,fs):=by
 unfold impl_mendOk_1
 rw [placeOf_e hk hx]
 simp only [Option.bind_some,plainN,fieldN]
 rcases gidx_find (fun f:GateField=>seq f.Name n) fs with ⟨h1,h2⟩ | ⟨j,hj,h1,h2,_⟩
 ·rw [h1,h2];rfl
 ·rw [h1,h2,ile_t (by omega),inb_n hj,nth_i hj];rfl
def fitsN (fs:List GateField) (n v:List UInt8):Bool:=match fieldN fs n with
 | some f=>fits f v
 | none=>false
def mendOk (fs:List GateField) (m:GateMend):Bool:=
 plainN fs m.Field&&((seq m.When []||plainN fs m.When)&&((seq m.From []||plainN fs m.From)&&(!seq m.When m.Field&&(!seq m.From m.Field&&((!seq m.When []||seq m.Is [])&&(!Abs.beq (seq m.Put []) (seq m.From [])&&(seq m.Put []||fitsN fs m.Field m.Put)))))))
def mendsOkS (xs:List GateShape) (m:GateMend):Bool:=match xs.find? fun s=>seq s.Kind m.Kind with
 | some s=>mendOk s.Fields m
 | none=>false
theorem plain_place {fs:List GateField} {n:List UInt8} (h:plainN fs n=true):∃ j,∃ hj:j < fs.length,gidx (fun f=>seq f.Name n) fs 0=(j:Int)∧fieldN fs n=some fs[j]:=by
 unfold plainN fieldN at *
 rcases gidx_find (fun f:GateField=>seq f.Name n) fs with ⟨h1,h2⟩ | ⟨j,hj,h1,h2,_⟩
 ·rw [h2] at h;cases h
 ·exact ⟨j,hj,h1,h2⟩
theorem specMend_e {k:Nat} {xs:List GateShape} {m:GateMend} (hk:4194304≤k) (hx:sdS GateShape.sd xs) (hm:m.sd):spec_l3MendOk k xs m=some (mendsOkS xs m):=by
 unfold spec_l3MendOk mendsOkS
 rw [l1Shape_e hk hx.1,fidx_gidx]
 simp only [Option.bind_some]
 rcases gidx_find (fun s:GateShape=>seq s.Kind m.Kind) xs with ⟨h1,h2⟩ | ⟨j,hj,h1,h2,_⟩
 ·rw [h1,h2];rfl
 ·have hs:=hx.2 _ (mem_i hj)
  obtain ⟨-,m2,m3,m4,m5,m6⟩:=hm
  rw [h1,h2,ilt_f (by omega),inb_n hj,nth_i hj]
  simp only [cond_false,req_t,share,l3Plain_e hk hs.2.1,Option.bind_some,mendOk]
  generalize hF:xs[j].Fields=fs at *
  cases hp:plainN fs m.Field with
  | false=>rfl
  | true=>
   obtain ⟨q,hq,q1,q2⟩:=plain_place hp
   have hfit:fitsN fs m.Field m.Put=fits fs[q] m.Put:=by unfold fitsN;rw [q2]
   rw [l3Field_e hk (by rw [← hF];exact hs.2.1),q1,hfit]
   simp only [Option.bind_some,inb_n hq,req_t,nth_i hq]
   rw [specFits_e hk (by subst hF;exact (hs.2.2 _ (mem_i hq)).2.2.2.2.1.1) m5]
   cases seq m.When []<;>cases plainN fs m.When<;>cases seq m.From []<;>cases plainN fs m.From<;>cases seq m.When m.Field<;>cases seq m.From m.Field<;>cases seq m.Is []<;>cases seq m.Put []<;>rfl
theorem implMend_e {k:Nat} {fs:List GateField} {m:GateMend} (hk:4194304≤k) (hx:sdS GateField.sd fs) (hm:m.sd):impl_mendOk k fs m=some (mendOk fs m):=by
 unfold impl_mendOk
 obtain ⟨-,m2,m3,m4,m5,m6⟩:=hm
 simp only [share,mendOk1_e hk hx.1,Option.bind_some,mendOk]
 cases hp:plainN fs m.Field with
 | false=>rfl
 | true=>
  obtain ⟨q,hq,q1,q2⟩:=plain_place hp
  have hfit:fitsN fs m.Field m.Put=fits fs[q] m.Put:=by unfold fitsN;rw [q2]
  rw [placeOf_e hk hx.1,q1,hfit]
  simp only [Option.bind_some,inb_n hq,req_t,nth_i hq]
  rw [implFits_e hk (hx.2 _ (mem_i hq)).2.2.2.2.1.1 m5]
  cases seq m.When []<;>cases plainN fs m.When<;>cases seq m.From []<;>cases plainN fs m.From<;>cases seq m.When m.Field<;>cases seq m.From m.Field<;>cases seq m.Is []<;>cases seq m.Put []<;>rfl
def readOf (kind name:Nm) (m:GateMend):List Nm:=cond (seq m.Kind kind&&seq m.Field name) ((cond (seq m.When []) [] [m.When])++(cond (seq m.From []) [] [m.From])) []
def reads (ms:List GateMend) (kind name:Nm):List Nm:=ms.flatMap (readOf kind name)
theorem foldl_flat {α β:Type} (g:α→List β):∀ (l:List α) (a:List β),l.foldl (fun acc m=>acc++g m) a=a++l.flatMap g
 | [],a=>by simp
 | m::r,a=>by rw [List.foldl_cons,foldl_flat g r];simp
theorem readOf_len (kind name:Nm) (m:GateMend):(readOf kind name m).length≤2:=by
 unfold readOf
 cases seq m.Kind kind&&seq m.Field name<;>cases seq m.When []<;>cases seq m.From []<;>simp
theorem rowOf1_e {k:Nat} {name:Nm} {ms:List GateMend} {s:GateShape} (hk:4194304≤k) (hm:ms.length≤1048576):impl_rowOf_1 k name ms s=some (reads ms s.Kind name,ms,s):=by
 unfold impl_rowOf_1
 simp only [share]
 have h:=loop_fold (S:=List Nm) (x:=ms) (f:=fun acc m=>acc++readOf s.Kind name m) (B:=0)
  (l:=fun k acc i=>iter (ts:=impl_rowOf_1_L3_ts) (R:=(List (List UInt8))×(List GateMend)×GateShape) k (impl_rowOf_1_L3 fun v61 v62 v63=>some (v63,v61,v62)) name ms (ms.length:Int) i ms s acc) (J:=fun acc=>some (acc,ms,s)) (fun i acc=>acc.length≤2*i)
  (fun k acc _=>by simp only [iter,impl_rowOf_1_L3,ilt_e,cond_false]<;>rfl)
  (fun k i acc hi _ hI=>⟨by
   simp only [iter,impl_rowOf_1_L3,share,ilt_n hi,inb_n hi,cond_true,req_t,nth_i hi,iadd_n hm hi,readOf]
   rw [appB_t (by simp;omega) (by omega),appB_t (by simp;omega) (by omega),appB_t (by simp;omega) (by omega)]
   cases seq ms[i].Kind s.Kind<;>cases seq ms[i].Field name<;>cases seq ms[i].When []<;>cases seq ms[i].From []<;>simp [req_t]<;>rfl,by
   have:=readOf_len s.Kind name ms[i]
   simp only [List.length_append];omega⟩) k [] (by omega) (by simp)
 refine h.trans ?_
 rw [foldl_flat];rfl
def hasN (row:List Nm) (y:Nm):Bool:=row.any fun z=>seq z y
theorem hasN_iff {row:List Nm} {y:Nm}:hasN row y=true↔y∈row:=by
 simp only [hasN,List.any_eq_true,seq_iff]
 exact ⟨fun ⟨z,h1,h2⟩=>h2▸h1,fun h=>⟨y,h,rfl⟩⟩
def readyN (ms:List GateMend) (kind name:Nm) (row:List Nm):Bool:=(reads ms kind name).all (hasN row)
theorem l3Ready_e {k:Nat} {ms:List GateMend} {kind name:Nm} {row:List Nm} (hk:8388608≤k) (hm:ms.length≤1048576) (hr:row.length≤1048576):spec_l3Ready k ms kind name row=some (readyN ms kind name row):=by
 unfold spec_l3Ready
 simp only [share]
 have h:=loop_all (x:=ms) (p:=fun m=>(readOf kind name m).all (hasN row)) (B:=4194304) (l:=fun k i=>iter (ts:=spec_l3Ready_L2_ts) (R:=Bool) k (spec_l3Ready_L2 (some true)) ms kind name row i) (E:=some true) (O:=some false)
  (fun k=>by simp only [iter,spec_l3Ready_L2,ilt_e,cond_false]<;>rfl)
  (fun k i hi hb=>by
   simp only [iter,spec_l3Ready_L2,share,ilt_n hi,inb_n hi,cond_true,req_t,nth_i hi,iadd_n hm hi,l1Has_e hb hr,Option.bind_some,readOf]
   have e1:(row.any fun y=>seq y ms[i].When)=hasN row ms[i].When:=rfl
   have e2:(row.any fun y=>seq y ms[i].From)=hasN row ms[i].From:=rfl
   rw [e1,e2]
   cases seq ms[i].Kind kind<;>cases seq ms[i].Field name<;>cases seq ms[i].When []<;>cases seq ms[i].From []<;>cases hw:hasN row ms[i].When<;>cases hf:hasN row ms[i].From<;>simp [hw,hf]<;>rfl) k (by omega)
 refine h.trans ?_
 unfold readyN reads
 rw [List.all_flatMap]
 cases ms.all fun a=>(readOf kind name a).all (hasN row)<;>rfl
def nextF (ms:List GateMend) (s:GateShape) (row:List Nm) (f:GateField):Bool:=!hasN row f.Name&&readyN ms s.Kind f.Name row
def stepR (ms:List GateMend) (s:GateShape) (row:List Nm):List Nm:=match s.Fields.find? (nextF ms s row) with
 | some f=>row++[f.Name]
 | none=>row
def rowM (ms:List GateMend) (s:GateShape):List Nm:=s.Fields.foldl (fun row _=>stepR ms s row) []
theorem stepR_len (ms:List GateMend) (s:GateShape) (row:List Nm):(stepR ms s row).length≤row.length+1:=by
 unfold stepR
 split<;>simp
theorem l3Row_e {k:Nat} {ms:List GateMend} {s:GateShape} (hk:4194304*4≤k) (hm:ms.length≤1048576) (hs:s.Fields.length≤1048576):spec_l3Row k s ms=some (rowM ms s):=by
 unfold spec_l3Row
 simp only [share]
 have inner:∀ (J:List GateMend→GateShape→Int→List Nm→Option (List Nm)) (n:Int) (row:List Nm) (k:Nat),4194304*3≤k→row.length≤1048576→
   iter (ts:=spec_l3Row_L6_ts) (R:=List (List UInt8)) k (spec_l3Row_L6 J) ms s n (0:Int) row=J ms s n (stepR ms s row):=by
  intro J n row k hk hr
  have h:=loop_find (x:=s.Fields) (p:=nextF ms s row) (B:=8388608) (l:=fun k i=>iter (ts:=spec_l3Row_L6_ts) (R:=List (List UInt8)) k (spec_l3Row_L6 J) ms s n i row) (E:=J ms s n row) (O:=fun f=>J ms s n (row++[f.Name]))
   (fun k=>by simp only [iter,spec_l3Row_L6,ilt_e,cond_false]<;>rfl)
   (fun k i hi hb=>by
    simp only [iter,spec_l3Row_L6,share,ilt_n hi,inb_n hi,cond_true,req_t,nth_i hi,iadd_n hs hi,l1Has_e (show 4194304≤k by omega) hr,l3Ready_e hb hm hr,Option.bind_some,nextF]
    rw [appB_t (by simp;omega) (by omega)]
    have e1:(row.any fun y=>seq y s.Fields[i].Name)=hasN row s.Fields[i].Name:=rfl
    rw [e1]
    cases hasN row s.Fields[i].Name<;>cases readyN ms s.Kind s.Fields[i].Name row<;>rfl) k (by omega)
  refine h.trans ?_
  unfold stepR
  cases s.Fields.find? (nextF ms s row)<;>rfl
 have h:=loop_fold (S:=List Nm) (x:=s.Fields) (f:=fun row _=>stepR ms s row) (B:=4194304*3) (l:=fun k row i=>iter (ts:=spec_l3Row_L3_ts) (R:=List (List UInt8)) k (spec_l3Row_L3 fun v=>some v) ms s i row) (J:=fun row=>some row) (fun i row=>row.length≤i)
  (fun k row _=>by simp only [iter,spec_l3Row_L3,ilt_e,cond_false]<;>rfl)
  (fun k i row hi hb hI=>⟨by
   simp only [iter,spec_l3Row_L3,share,ilt_n hi,cond_true]
   refine (inner _ _ _ _ hb (by omega)).trans ?_
   rw [iadd_n hs hi],Nat.le_trans (stepR_len ms s row) (by omega)⟩) k [] (by omega) (by simp)
 exact h
section
variable (R:Nm→List Nm) (N:List Nm)
structure Topo (out:List Nm):Prop where
 nd:out.Nodup
 rd:∀ pre x post,out=pre++x::post→∀ y,y∈R x→y∈pre
structure Full (L:List Nm):Prop where
 topo:Topo R L
 all:∀ y,y∈N→y∈L
 sub:∀ y,y∈L→y∈N
variable {R N}
theorem Topo.nil:Topo R []:=⟨List.nodup_nil,fun pre x post h=>by simp at h⟩
theorem Topo.snoc {out:List Nm} {x:Nm} (h:Topo R out) (hx:x ∉ out) (hr:∀ y,y∈R x→y∈out):Topo R (out++[x]):=by
 refine ⟨List.nodup_append.2 ⟨h.nd,by simp,fun a ha b hb=>by simp at hb;subst hb;exact fun e=>hx (e▸ha)⟩,fun pre z post e y hy=>?_⟩
 rcases List.append_eq_append_iff.1 e with ⟨cs,h1,h2⟩ | ⟨bs,h1,h2⟩
 ·cases cs with
  | nil=>
   simp only [List.nil_append,List.cons.injEq] at h2
   rw [List.append_nil] at h1
   rw [h1]
   exact hr y (h2.1▸hy)
  | cons a cs=>simp at h2
 ·cases bs with
  | nil=>
   simp only [List.nil_append,List.cons.injEq] at h2
   rw [List.append_nil] at h1
   rw [← h1]
   exact hr y (h2.1▸hy)
  | cons b bs=>
   simp only [List.cons_append,List.cons.injEq] at h2
   obtain ⟨rfl,_⟩:=h2
   exact h.rd pre z bs h1 y hy
theorem Topo.lt {L:List Nm} (h:Topo R L) {x y:Nm} (hx:x∈L) (hy:y∈R x):y∈L∧L.idxOf y < L.idxOf x:=by
 obtain ⟨pre,post,e⟩:=List.append_of_mem hx
 have hp:=h.rd pre x post e y hy
 have hnd:=h.nd
 rw [e] at hnd
 have hxp:x ∉ pre:=fun hm=>(List.nodup_append.1 hnd).2.2 x hm x (by simp) rfl
 refine ⟨by rw [e];simp [hp],?_⟩
 rw [e,List.idxOf_append,if_pos hp,List.idxOf_append,if_neg hxp,List.idxOf_cons_self,Nat.zero_add]
 exact List.idxOf_lt_length_iff.2 hp
end
theorem stepR_cases (ms:List GateMend) (s:GateShape) (row:List Nm):(∃ f,f∈s.Fields∧f.Name ∉ row∧(∀ y,y∈reads ms s.Kind f.Name→y∈row)∧stepR ms s row=row++[f.Name])∨
  ((∀ f,f∈s.Fields→nextF ms s row f=false)∧stepR ms s row=row):=by
 unfold stepR
 cases h:s.Fields.find? (nextF ms s row) with
 | some f=>
  have h1:=List.find?_some h
  simp only [nextF,Bool.and_eq_true,Bool.not_eq_true'] at h1
  refine .inl ⟨f,List.mem_of_find?_eq_some h,fun hm=>?_,fun y hy=>?_,rfl⟩
  ·rw [hasN_iff.2 hm] at h1;cases h1.1
  ·exact hasN_iff.1 (List.all_eq_true.1 h1.2 y hy)
 | none=>exact .inr ⟨fun f hf=>by simpa using List.find?_eq_none.1 h f hf,rfl⟩
def names (s:GateShape):List Nm:=s.Fields.map (·.Name)
theorem rowM_topo (ms:List GateMend) (s:GateShape):Topo (reads ms s.Kind) (rowM ms s)∧∀ y,y∈rowM ms s→y∈names s:=by
 have key:∀ (l:List GateField) (row:List Nm),Topo (reads ms s.Kind) row→(∀ y,y∈row→y∈names s)→Topo (reads ms s.Kind) (l.foldl (fun row _=>stepR ms s row) row)∧∀ y,y∈l.foldl (fun row _=>stepR ms s row) row→y∈names s:=by
  intro l
  induction l with
  | nil=>exact fun row h1 h2=>⟨h1,h2⟩
  | cons a r ih=>
   intro row h1 h2
   rw [List.foldl_cons]
   rcases stepR_cases ms s row with ⟨f,q1,q2,q3,q4⟩ | ⟨_,q⟩
   ·rw [q4]
    refine ih _ (h1.snoc q2 q3) fun y hy=>?_
    rcases List.mem_append.1 hy with h | h
    ·exact h2 y h
    ·simp at h;subst h;exact List.mem_map_of_mem q1
   ·rw [q];exact ih _ h1 h2
 exact key s.Fields [] Topo.nil (fun y h=>by cases h)
theorem rowM_full {ms:List GateMend} {s:GateShape} (hnd:(names s).Nodup) {L:List Nm} (hL:Full (reads ms s.Kind) (names s) L):(rowM ms s).length=s.Fields.length:=by
 have hlen:(names s).length=s.Fields.length:=by simp [names]
 have step:∀ row:List Nm,row.Nodup→(∀ y,y∈row→y∈names s)→row.length < s.Fields.length→∃ f,f∈s.Fields∧nextF ms s row f=true:=by
  intro row h1 h2 h3
  have:∃ x,L.find? (fun y=>!hasN row y)=some x:=by
   cases h:L.find? (fun y=>!hasN row y) with
   | some x=>exact ⟨x,rfl⟩
   | none=>
    have hall:=List.find?_eq_none.1 h
    have hsub:∀ y,y∈names s→y∈row:=fun y hy=>by
     have:=hall y (hL.all y hy)
     simp only [Bool.not_eq_true',Bool.not_eq_false] at this
     exact hasN_iff.1 (by simpa using this)
    have:=hnd.length_le_of_subset hsub
    omega
  obtain ⟨x,hx⟩:=this
  have hxL:=List.mem_of_find?_eq_some hx
  obtain ⟨f,hf,rfl⟩:=List.mem_map.1 (hL.sub x hxL)
  refine ⟨f,hf,?_⟩
  simp only [nextF,Bool.and_eq_true]
  refine ⟨List.find?_some (p:=fun y=>!hasN row y) hx,List.all_eq_true.2 fun y hy=>?_⟩
  obtain ⟨hp,pre,post,e,hpre⟩:=List.find?_eq_some_iff_append.1 hx
  have:=hpre y (hL.topo.rd pre f.Name post e y hy)
  simpa using this
 have key:∀ (l:List GateField) (row:List Nm),row.Nodup→(∀ y,y∈row→y∈names s)→Topo (reads ms s.Kind) row→row.length+l.length=s.Fields.length→(l.foldl (fun row _=>stepR ms s row) row).length=s.Fields.length:=by
  intro l
  induction l with
  | nil=>intro row _ _ _ h;simpa using h
  | cons a r ih=>
   intro row h1 h2 h4 h3
   rw [List.length_cons] at h3
   rw [List.foldl_cons]
   rcases stepR_cases ms s row with ⟨f,q1,q2,q3,q4⟩ | ⟨q1,_⟩
   ·rw [q4]
    have ht:=h4.snoc q2 q3
    refine ih _ ht.nd (fun y hy=>?_) ht (by simp;omega)
    rcases List.mem_append.1 hy with h | h
    ·exact h2 y h
    ·simp at h;subst h;exact List.mem_map_of_mem q1
   ·obtain ⟨f,hf,hn⟩:=step row h1 h2 (by omega)
    rw [q1 f hf] at hn;cases hn
 exact key s.Fields [] List.nodup_nil (fun y h=>by cases h) Topo.nil (by simp)
theorem rowM_iff {ms:List GateMend} {s:GateShape} (hnd:(names s).Nodup):(rowM ms s).length=s.Fields.length↔∃ L,Full (reads ms s.Kind) (names s) L:=by
 constructor
 ·intro h
  obtain ⟨h1,h2⟩:=rowM_topo ms s
  refine ⟨rowM ms s,h1,fun y hy=>?_,h2⟩
  cases hc:hasN (rowM ms s) y with
  | true=>exact hasN_iff.1 hc
  | false=>
   have hny:y ∉ rowM ms s:=fun hm=>by rw [hasN_iff.2 hm] at hc;cases hc
   have h3:(y::rowM ms s).Nodup:=List.nodup_cons.2 ⟨hny,h1.nd⟩
   have h4:=h3.length_le_of_subset (l₂:=names s) fun z hz=>by
    rcases List.mem_cons.1 hz with e | e
    ·exact e▸hy
    ·exact h2 z e
   simp only [List.length_cons,names,List.length_map] at h4
   omega
 ·rintro ⟨L,hL⟩
  exact rowM_full hnd hL
def setS (n:Nm) (v:Int) (st:List Pair):List Pair:=mput (fun p:Pair=>seq n p.Key) st ⟨n,v⟩
theorem seen1_set (n n':Nm) (v:Int) (st:List Pair):seen1 n' (setS n v st)=cond (seq n' n) v (seen1 n' st):=mget_mput (key:=Pair.Key) (y:=⟨n,v⟩)
theorem seen1_set_same (n:Nm) (v:Int) (st:List Pair):seen1 n (setS n v st)=v:=by rw [seen1_set,seq_self];rfl
theorem seq_ne {a b:Nm} (h:a≠b):seq a b=false:=by
 cases e:seq a b with
 | false=>rfl
 | true=>exact absurd (seq_iff.1 e) h
theorem seen1_set_other {n n':Nm} (h:n'≠n) (v:Int) (st:List Pair):seen1 n' (setS n v st)=seen1 n' st:=by rw [seen1_set,seq_ne h];rfl
section
variable {ms:List GateMend} {s:GateShape} {R:Nm→List Nm} {N:List Nm}
def fu (N G:List Nm):Nat:=8388608+(N.length+1-G.length)*1048578
theorem fu_le {N G G':List Nm} (h:G.length≤G'.length):fu N G'≤fu N G:=by unfold fu;omega
theorem fu_ge (N G:List Nm):8388608≤fu N G:=by unfold fu;omega
theorem fu_cons {N G:List Nm} {x:Nm} (h:G.length+1≤N.length):fu N (x::G)+1048578≤fu N G:=by unfold fu;simp only [List.length_cons];omega
structure DInv (R:Nm→List Nm) (N:List Nm) (st:List Pair) (out G:List Nm):Prop where
 two:∀ y,seen1 y st=2↔y∈out
 rng:∀ y,seen1 y st=0∨seen1 y st=1∨seen1 y st=2
 topo:Topo R out
 sub:∀ y,y∈out→y∈N
 gnd:G.Nodup
 gsub:∀ y,y∈G→y∈N
 g:∀ y,y∈G↔seen1 y st≠0
structure DPost (R:Nm→List Nm) (N:List Nm) (st:List Pair) (out G:List Nm) (st':List Pair) (out':List Nm):Prop where
 inv:∃ G',DInv R N st' out' G'∧G.length≤G'.length
 one:∀ y,seen1 y st'=1↔seen1 y st=1
 ext:∀ y,y∈out→y∈out'
def Ahead (L:List Nm) (st:List Pair) (x:Nm):Prop:=∀ z,seen1 z st=1→L.idxOf x < L.idxOf z
def WalkOk (R:Nm→List Nm) (N:List Nm) (ms:List GateMend) (s:GateShape) (f:Nat→Nm→List Pair→List GateMend→GateShape→List Nm→Option (Bool×List Pair×List GateMend×GateShape×List Nm)) (n:Nat):Prop:=
 ∀ k x st out G,fu N G≤k→x∈N→DInv R N st out G→N.length < n+G.length→∃ b st' out',f k x st ms s out=some (b,st',ms,s,out')∧(b=true→DPost R N st out G st' out'∧x∈out')∧∀ L,Full R N L→Ahead L st x→b=true
theorem DPost.refl {st:List Pair} {out G:List Nm} (h:DInv R N st out G):DPost R N st out G st out:=⟨⟨G,h,Nat.le_refl _⟩,fun _=>Iff.rfl,fun _ h=>h⟩
theorem DPost.ahead {st st':List Pair} {out out' G L:List Nm} (h:DPost R N st out G st' out') {x:Nm} (ha:Ahead L st x):Ahead L st' x:=fun z hz=>ha z ((h.one z).1 hz)
theorem walk_loop {f:Nat→Nm→List Pair→List GateMend→GateShape→List Nm→Option (Bool×List Pair×List GateMend×GateShape×List Nm)} {n:Nat} (hf:WalkOk R N ms s f n) {ys:List Nm} (hl:ys.length≤1048576) (hN:∀ y,y∈ys→y∈N) (x:Nm)
  (J:Nm→List Pair→List GateMend→GateShape→List Nm→Option (Bool×List Pair×List GateMend×GateShape×List Nm)):
  ∀ m i k st out G,i+m=ys.length→fu N G+m+1≤k→DInv R N st out G→N.length < n+G.length→
   ∃ b st' out',iter (ts:=impl_row_string__1_L8_ts) (R:=Bool×(List Pair)×(List GateMend)×GateShape×(List (List UInt8))) k (impl_row_string__1_L8 f J) x ys (ys.length:Int) (i:Int) st ms s out=(cond b (J x st' ms s out') (some (false,st',ms,s,out')))∧
    (b=true→DPost R N st out G st' out'∧∀ y,y∈ys.drop i→y∈out')∧∀ L,Full R N L→(∀ y,y∈ys.drop i→Ahead L st y)→b=true:=by
 intro m
 induction m with
 | zero=>
  intro i k st out G h hk hi _
  obtain ⟨k,rfl⟩:∃ q,k=q+1:=⟨k-1,by omega⟩
  obtain rfl:i=ys.length:=by omega
  refine ⟨true,st,out,?_,fun _=>⟨.refl hi,fun y hy=>by simp at hy⟩,fun _ _ _=>rfl⟩
  simp only [iter,impl_row_string__1_L8,ilt_e,cond_false]<;>rfl
 | succ m ih=>
  intro i k st out G h hk hi hg
  obtain ⟨k,rfl⟩:∃ q,k=q+1:=⟨k-1,by omega⟩
  have hlt:i < ys.length:=by omega
  obtain ⟨b,st1,out1,h1,h2,h3⟩:=hf k ys[i] st out G (by omega) (hN _ (mem_i hlt)) hi hg
  rw [List.drop_eq_getElem_cons hlt]
  cases b with
  | false=>
   refine ⟨false,st1,out1,?_,(fun h=>by cases h),fun L hL ha=>h3 L hL (ha _ (List.mem_cons_self ..))⟩
   simp only [iter,impl_row_string__1_L8,ilt_n hlt,inb_n hlt,cond_true,req_t,nth_i hlt,h1,Option.bind_some]<;>rfl
  | true=>
   obtain ⟨p1,p2⟩:=h2 rfl
   obtain ⟨G1,hi1,hg1⟩:=p1.inv
   obtain ⟨b,st2,out2,k1,k2,k3⟩:=ih (i+1) k st1 out1 G1 (by omega) (by have:=fu_le (N:=N) hg1;omega) hi1 (by omega)
   refine ⟨b,st2,out2,?_,fun hb=>?_,fun L hL ha=>k3 L hL fun y hy=>p1.ahead (ha y (List.mem_cons_of_mem _ hy))⟩
   ·simp only [iter,impl_row_string__1_L8,ilt_n hlt,inb_n hlt,cond_true,req_t,nth_i hlt,h1,Option.bind_some,iadd_n hl hlt]
    exact k1
   ·obtain ⟨q1,q2⟩:=k2 hb
    obtain ⟨G2,hi2,hg2⟩:=q1.inv
    refine ⟨⟨⟨G2,hi2,by omega⟩,fun y=>(q1.one y).trans (p1.one y),fun y hy=>q1.ext y (p1.ext y hy)⟩,fun y hy=>?_⟩
    rcases List.mem_cons.1 hy with e | e
    ·exact e▸q1.ext _ p2
    ·exact q2 y e
theorem walk_ok (hms:ms.length≤1048576) (hR:∀ x,x∈N→∀ y,y∈reads ms s.Kind x→y∈N) (hRl:∀ x,(reads ms s.Kind x).length≤1048576) (hNl:N.length≤1048576):∀ n,WalkOk (reads ms s.Kind) N ms s (impl_row_string__1 n) n
 | 0=>fun k x st out G _ _ hi hg=>by
  have:=hi.gnd.length_le_of_subset hi.gsub
  omega
 | n+1=>fun k x st out G hk hx hi hg=>by
  have ih:=walk_ok hms hR hRl hNl n
  have e0:mget (fun p:Pair=>seq x p.Key) (fun p:Pair=>p.Val) (0:Int) st=seen1 x st:=rfl
  simp only [impl_row_string__1,e0,share]
  rcases hi.rng x with h0 | h0 | h0
  ·
   rw [h0]
   have i1:DInv (reads ms s.Kind) N (setS x 1 st) out (x::G):=by
    have hxG:x ∉ G:=fun h=>(hi.g x).1 h h0
    refine ⟨fun y=>?_,fun y=>?_,hi.topo,hi.sub,List.nodup_cons.2 ⟨hxG,hi.gnd⟩,fun y hy=>?_,fun y=>?_⟩
    ·by_cases e:y=x
     ·subst e
      rw [seen1_set_same]
      exact ⟨fun h=>by omega,fun h=>by have:=(hi.two y).2 h;omega⟩
     ·rw [seen1_set_other e];exact hi.two y
    ·by_cases e:y=x
     ·subst e;rw [seen1_set_same];exact .inr (.inl rfl)
     ·rw [seen1_set_other e];exact hi.rng y
    ·rcases List.mem_cons.1 hy with e | e
     ·exact e▸hx
     ·exact hi.gsub y e
    ·by_cases e:y=x
     ·subst e;rw [seen1_set_same];simp
     ·rw [seen1_set_other e,List.mem_cons]
      exact ⟨fun h=>(hi.g y).1 (h.resolve_left e),fun h=>.inr ((hi.g y).2 h)⟩
   have hGl:(x::G).length≤N.length:=i1.gnd.length_le_of_subset i1.gsub
   have hfu:fu N (x::G)+1048578≤fu N G:=fu_cons (by simpa using hGl)
   have:=fu_ge N G
   have hrow:=rowOf1_e (name:=x) (s:=s) (show 4194304≤k by omega) hms
   let J:Nm→List Pair→List GateMend→GateShape→List Nm→Option (Bool×List Pair×List GateMend×GateShape×List Nm):=fun v39 v40 v41 v42 v43=>
    req (appB (v43.length+([v39]:List (List UInt8)).length) 16) (some (true,(mput (fun p:Pair=>seq v39 p.Key) v40 (⟨v39,(2:Int)⟩:Pair)),v41,v42,(v43++([v39]:List (List UInt8)))))
   have hrl:=hRl x
   obtain ⟨b,st2,out2,k1,k2,k3⟩:=walk_loop ih hrl (hR x hx) x J (reads ms s.Kind x).length 0 k (setS x 1 st) out (x::G) (by omega) (by omega) i1 (by simp;omega)
   simp only [hrow,Option.bind_some]
   have e1:(mput (fun p:Pair=>seq x p.Key) st (⟨x,(1:Int)⟩:Pair))=setS x 1 st:=rfl
   have k1':iter (ts:=impl_row_string__1_L8_ts) (R:=Bool×(List Pair)×(List GateMend)×GateShape×(List (List UInt8))) k (impl_row_string__1_L8 (impl_row_string__1 n) J) x (reads ms s.Kind x) ((reads ms s.Kind x).length:Int) (0:Int) (setS x 1 st) ms s out=(cond b (J x st2 ms s out2) (some (false,st2,ms,s,out2))):=k1
   cases b with
   | false=>
    refine ⟨false,st2,out2,by rw [show ieq 0 1=false from rfl,show ieq 0 2=false from rfl];exact k1',(fun h=>by cases h),fun L hL ha=>?_⟩
    refine k3 L hL fun y hy z hz=>?_
    have hlt:=(hL.topo.lt (hL.all x hx) (by simpa using hy)).2
    by_cases e:z=x
    ·rw [e];exact hlt
    ·rw [seen1_set_other e] at hz
     exact Nat.lt_trans hlt (ha z hz)
   | true=>
    obtain ⟨q1,q2⟩:=k2 rfl
    obtain ⟨G2,hi2,hg2⟩:=q1.inv
    have hx1:seen1 x st2=1:=(q1.one x).2 (seen1_set_same _ _ _)
    have hxo:x ∉ out2:=fun h=>by have:=(hi2.two x).2 h;omega
    have hlen:out2.length≤1048576:=Nat.le_trans (hi2.topo.nd.length_le_of_subset hi2.sub) hNl
    refine ⟨true,setS x 2 st2,out2++[x],?_,fun _=>⟨⟨⟨G2,⟨fun y=>?_,fun y=>?_,hi2.topo.snoc hxo fun y hy=>q2 y (by simpa using hy),fun y hy=>?_,hi2.gnd,hi2.gsub,fun y=>?_⟩,?_⟩,fun y=>?_,fun y hy=>?_⟩,by simp⟩,fun _ _ _=>rfl⟩
    ·rw [show ieq 0 1=false from rfl,show ieq 0 2=false from rfl]
     refine k1'.trans ?_
     show req (appB (out2.length+1) 16) _=_
     rw [appB_t (by omega) (by omega)];rfl
    ·by_cases e:y=x
     ·subst e;rw [seen1_set_same];simp
     ·rw [seen1_set_other e,hi2.two y];simp [e]
    ·by_cases e:y=x
     ·subst e;rw [seen1_set_same];exact .inr (.inr rfl)
     ·rw [seen1_set_other e];exact hi2.rng y
    ·rcases List.mem_append.1 hy with h | h
     ·exact hi2.sub y h
     ·simp at h;exact h▸hx
    ·by_cases e:y=x
     ·subst e;rw [seen1_set_same,hi2.g y,hx1];simp
     ·rw [seen1_set_other e];exact hi2.g y
    ·simp only [List.length_cons] at hg2;omega
    ·by_cases e:y=x
     ·subst e;rw [seen1_set_same];omega
     ·rw [seen1_set_other e,q1.one y,seen1_set_other e]
    ·exact List.mem_append_left _ (q1.ext y hy)
  ·
   rw [h0]
   exact ⟨false,st,out,rfl,(fun h=>by cases h),fun L _ ha=>absurd (ha x h0) (Nat.lt_irrefl _)⟩
  ·
   rw [h0]
   exact ⟨true,st,out,rfl,fun _=>⟨.refl hi,(hi.two x).1 h0⟩,fun _ _ _=>rfl⟩
theorem row_loop (hw:∀ n,WalkOk R N ms s (impl_row_string__1 n) n) {xs:List Nm} (hl:xs.length≤1048576) (hN:∀ y,y∈xs→y∈N) (hNl:N.length≤1048576)
  (J:List GateMend→GateShape→List Nm→Option (List Nm×Bool×List GateMend×GateShape)):
  ∀ m i k st out G,i+m=xs.length→fu N G+m+1≤k→DInv R N st out G→(∀ z,seen1 z st≠1)→
   ∃ b st' out',iter (ts:=impl_row_string__L6_ts) (R:=(List (List UInt8))×Bool×(List GateMend)×GateShape) k (impl_row_string__L6 J) xs (xs.length:Int) (i:Int) ms s out st=(cond b (J ms s out') (some ([],false,ms,s)))∧
    (b=true→DPost R N st out G st' out'∧∀ y,y∈xs.drop i→y∈out')∧∀ L,Full R N L→b=true:=by
 intro m
 induction m with
 | zero=>
  intro i k st out G h hk hi _
  obtain ⟨k,rfl⟩:∃ q,k=q+1:=⟨k-1,by omega⟩
  obtain rfl:i=xs.length:=by omega
  refine ⟨true,st,out,?_,fun _=>⟨.refl hi,fun y hy=>by simp at hy⟩,fun _ _=>rfl⟩
  simp only [iter,impl_row_string__L6,ilt_e,cond_false]<;>rfl
 | succ m ih=>
  intro i k st out G h hk hi hz
  obtain ⟨k,rfl⟩:∃ q,k=q+1:=⟨k-1,by omega⟩
  have hlt:i < xs.length:=by omega
  have:=fu_ge N G
  obtain ⟨b,st1,out1,h1,h2,h3⟩:=hw k k xs[i] st out G (by omega) (hN _ (mem_i hlt)) hi (by omega)
  rw [List.drop_eq_getElem_cons hlt]
  cases b with
  | false=>
   refine ⟨false,st1,out1,?_,(fun h=>by cases h),fun L hL=>h3 L hL fun z hz'=>absurd hz' (hz z)⟩
   simp only [iter,impl_row_string__L6,ilt_n hlt,inb_n hlt,cond_true,req_t,nth_i hlt,h1,Option.bind_some]<;>rfl
  | true=>
   obtain ⟨p1,p2⟩:=h2 rfl
   obtain ⟨G1,hi1,hg1⟩:=p1.inv
   obtain ⟨b,st2,out2,k1,k2,k3⟩:=ih (i+1) k st1 out1 G1 (by omega) (by have:=fu_le (N:=N) hg1;omega) hi1 fun z hz'=>hz z ((p1.one z).1 hz')
   refine ⟨b,st2,out2,?_,fun hb=>?_,k3⟩
   ·simp only [iter,impl_row_string__L6,ilt_n hlt,inb_n hlt,cond_true,req_t,nth_i hlt,h1,Option.bind_some,iadd_n hl hlt]
    exact k1
   ·obtain ⟨q1,q2⟩:=k2 hb
    obtain ⟨G2,hi2,hg2⟩:=q1.inv
    refine ⟨⟨⟨G2,hi2,by omega⟩,fun y=>(q1.one y).trans (p1.one y),fun y hy=>q1.ext y (p1.ext y hy)⟩,fun y hy=>?_⟩
    rcases List.mem_cons.1 hy with e | e
    ·exact e▸q1.ext _ p2
    ·exact q2 y e
theorem names_fold (l:List GateField) (q:List Nm):l.foldl (fun (q:List Nm) f=>q++[f.Name]) q=q++l.map (·.Name):=by
 induction l generalizing q with
 | nil=>simp
 | cons a r ih=>rw [List.foldl_cons,ih];simp
theorem rowOf_e (hms:ms.length≤1048576) (hR:∀ x,x∈names s→∀ y,y∈reads ms s.Kind x→y∈names s) (hRl:∀ x,(reads ms s.Kind x).length≤1048576) (hNl:s.Fields.length≤6) {k:Nat} (hk:4194304*5≤k):
  ∃ b row,impl_rowOf k s ms=some (row,b)∧(b=true→Full (reads ms s.Kind) (names s) row)∧((∃ L,Full (reads ms s.Kind) (names s) L)→b=true):=by
 have hNl':(names s).length≤6:=by simp only [names,List.length_map];exact hNl
 have i0:DInv (reads ms s.Kind) (names s) [] [] []:=⟨fun y=>by simp [seen1,mget],fun y=>.inl rfl,Topo.nil,(fun y h=>by cases h),List.nodup_nil,(fun y h=>by cases h),fun y=>by simp [seen1,mget]⟩
 let J:List GateMend→GateShape→List Nm→Option (List Nm×Bool×List GateMend×GateShape):=fun v23 v24 v25=>some (v25,true,v23,v24)
 obtain ⟨b,st',out',h1,h2,h3⟩:=row_loop (walk_ok hms hR hRl (by omega)) (by omega) (fun y h=>h) (by omega) J (names s).length 0 k [] [] [] (by omega) (by simp only [fu,List.length_nil];omega) i0 fun z hz=>by simp [seen1,mget] at hz
 have hrow:impl_row_string_ k (names s) ms s=cond b (some (out',true,ms,s)) (some ([],false,ms,s)):=by
  unfold impl_row_string_
  simp only [share]
  exact h1
 have hof:impl_rowOf k s ms=cond b (some (out',true)) (some ([],false)):=by
  unfold impl_rowOf
  simp only [share]
  have h:=fun J:GateShape→List GateMend→List Nm→Option (List Nm×Bool)=>loop_fold (S:=List Nm) (x:=s.Fields) (f:=fun q f=>q++[f.Name]) (B:=0) (l:=fun k q i=>iter (ts:=impl_rowOf_L3_ts) (R:=(List (List UInt8))×Bool) k (impl_rowOf_L3 J) s.Fields (s.Fields.length:Int) i s ms q)
   (J:=fun q=>J s ms q) (fun i q=>q.length=i)
   (fun k q _=>by simp only [iter,impl_rowOf_L3,ilt_e,cond_false]<;>rfl)
   (fun k i q hi _ hq=>⟨by
    simp only [iter,impl_rowOf_L3,ilt_n hi,inb_n hi,cond_true,req_t,nth_i hi,iadd_n (show s.Fields.length≤1048576 by omega) hi]
    rw [appB_t (by simp;omega) (by omega)];rfl,by simp [hq]⟩) k [] (by omega) rfl
  refine (h _).trans ?_
  rw [names_fold,List.nil_append]
  change (impl_row_string_ k (names s) ms s).bind _=_
  rw [hrow]
  cases b<;>rfl
 cases b with
 | false=>exact ⟨false,[],hof,(fun h=>by cases h),fun ⟨L,hL⟩=>h3 L hL⟩
 | true=>
  obtain ⟨p,q⟩:=h2 rfl
  obtain ⟨G',hi',_⟩:=p.inv
  exact ⟨true,out',hof,fun _=>⟨hi'.topo,fun y h=>q y (by simpa using h),fun y h=>hi'.sub y h⟩,fun _=>rfl⟩
end
theorem distF_nodup:∀ {r:List GateField} {q:List Nm},distF q r=true→(r.map (·.Name)).Nodup∧∀ y,y∈r.map (·.Name)→y ∉ q
 | [],_,_=>⟨List.nodup_nil,fun _ h=>by cases h⟩
 | f::r,q,h=>by
  simp only [distF,Bool.and_eq_true,Bool.not_eq_true'] at h
  obtain ⟨h1,h2⟩:=h
  obtain ⟨h3,h4⟩:=distF_nodup h2
  refine ⟨List.nodup_cons.2 ⟨fun hm=>h4 _ hm (by simp),h3⟩,fun y hy hq=>?_⟩
  rcases List.mem_cons.1 hy with e | e
  ·have:q.any (fun y=>seq y f.Name)=true:=List.any_eq_true.2 ⟨y,hq,seq_iff.2 e⟩
   rw [h1] at this;cases this
  ·exact h4 y e (by simp [hq])
theorem find_kind:∀ {xs:List GateShape} {s:GateShape} {n:Nm},(kinds xs).Nodup→s∈xs→s.Kind=n→xs.find? (fun s=>seq s.Kind n)=some s
 | [],_,_,_,h,_=>by cases h
 | a::r,s,n,hn,hs,e=>by
  simp only [kinds,List.map_cons,List.nodup_cons] at hn
  rw [List.find?_cons]
  rcases List.mem_cons.1 hs with h | h
  ·subst h
   rw [show seq s.Kind n=true from seq_iff.2 e]
  ·cases ha:seq a.Kind n with
   | true=>
    have hm:s.Kind∈r.map (·.Kind):=List.mem_map_of_mem h
    rw [e,← seq_iff.1 ha] at hm
    exact absurd hm hn.1
   | false=>exact find_kind hn.2 h e
theorem plain_mem {fs:List GateField} {n:Nm} (h:plainN fs n=true):n∈fs.map (·.Name):=by
 unfold plainN fieldN at h
 cases e:fs.find? fun f=>seq f.Name n with
 | none=>rw [e] at h;cases h
 | some f=>
  have h1:=List.find?_some e
  have h2:=List.mem_of_find?_eq_some e
  rw [← seq_iff.1 h1];exact List.mem_map_of_mem h2
theorem readOf_in {xs:List GateShape} {s:GateShape} {m:GateMend} (hn:(kinds xs).Nodup) (hs:s∈xs) (hm:mendsOkS xs m=true) {x y:Nm} (hy:y∈readOf s.Kind x m):y∈names s:=by
 unfold readOf at hy
 cases h1:seq m.Kind s.Kind with
 | false=>rw [h1] at hy;cases hy
 | true=>
  rw [h1] at hy
  cases h2:seq m.Field x with
  | false=>rw [h2] at hy;cases hy
  | true=>
   rw [h2] at hy
   simp only [Bool.and_self,cond_true,List.mem_append] at hy
   have hf:=find_kind hn hs (seq_iff.1 h1).symm
   unfold mendsOkS at hm
   rw [hf] at hm
   simp only [mendOk,Bool.and_eq_true,Bool.or_eq_true] at hm
   obtain ⟨_,h4,h5,_⟩:=hm
   rcases hy with hy | hy
   ·cases h6:seq m.When [] with
    | true=>rw [h6] at hy;cases hy
    | false=>
     rw [h6] at hy
     simp only [cond_false,List.mem_singleton] at hy
     subst hy
     exact plain_mem (h4.resolve_left (by rw [h6];exact Bool.false_ne_true))
   ·cases h6:seq m.From [] with
    | true=>rw [h6] at hy;cases hy
    | false=>
     rw [h6] at hy
     simp only [cond_false,List.mem_singleton] at hy
     subst hy
     exact plain_mem (h5.resolve_left (by rw [h6];exact Bool.false_ne_true))
theorem reads_len {ms:List GateMend} {kind x:Nm}:(reads ms kind x).length≤2*ms.length:=by
 induction ms with
 | nil=>simp [reads]
 | cons a r ih=>
  have:=readOf_len kind x a
  simp only [reads,List.flatMap_cons,List.length_append,List.length_cons] at *
  omega
def mendsOk (xs:List GateShape) (ms:List GateMend):Bool:=
 shapesOk xs&&(ile (ms.length:Int) 12&&(ms.all (mendsOkS xs)&&xs.all fun s=>ieq ((rowM ms s).length:Int) (s.Fields.length:Int)))
theorem specMendsOk_e {k:Nat} {xs:List GateShape} {ms:List GateMend} (hk:4194304*6≤k) (hx:sdS GateShape.sd xs) (hm:sdS GateMend.sd ms):spec_GateMendsOk k xs ms=some (mendsOk xs ms):=by
 unfold spec_GateMendsOk mendsOk
 have h4:=fun J:List GateShape→List GateMend→Option Bool=>loop_all (R:=Option Bool) (x:=ms) (p:=mendsOkS xs) (B:=4194304) (l:=fun k i=>iter (ts:=spec_GateMendsOk_L4_ts) (R:=Bool) k (spec_GateMendsOk_L4 J) xs ms i) (E:=J xs ms) (O:=some false)
  (fun k=>by simp only [iter,spec_GateMendsOk_L4,ilt_e,cond_false]<;>rfl)
  (fun k i hi hb=>by
   simp only [iter,spec_GateMendsOk_L4,ilt_n hi,inb_n hi,cond_true,req_t,nth_i hi,iadd_n hm.1 hi,specMend_e hb hx (hm.2 _ (mem_i hi)),Option.bind_some]
   cases mendsOkS xs ms[i]<;>rfl) k (by have:=hm.1;omega)
 have h9:=loop_all (R:=Option Bool) (x:=xs) (p:=fun s=>ieq ((rowM ms s).length:Int) (s.Fields.length:Int)) (B:=4194304*4) (l:=fun k i=>iter (ts:=spec_GateMendsOk_L9_ts) (R:=Bool) k (spec_GateMendsOk_L9 (some true)) xs ms i) (E:=some true) (O:=some false)
  (fun k=>by simp only [iter,spec_GateMendsOk_L9,ilt_e,cond_false]<;>rfl)
  (fun k i hi hb=>by
   simp only [iter,spec_GateMendsOk_L9,ilt_n hi,inb_n hi,cond_true,req_t,nth_i hi,iadd_n hx.1 hi,l3Row_e hb hm.1 (hx.2 _ (mem_i hi)).2.1,Option.bind_some]
   cases ieq ((rowM ms xs[i]).length:Int) (xs[i].Fields.length:Int)<;>rfl) k (by have:=hx.1;omega)
 simp only [share,specShapesOk_e hx (show 4194304*4≤k by omega),Option.bind_some,ilt_not]
 cases shapesOk xs with
 | false=>rfl
 | true=>
  cases ile (ms.length:Int) 12 with
  | false=>rfl
  | true=>
   refine (h4 _).trans ?_
   cases ms.all (mendsOkS xs) with
   | false=>rfl
   | true=>exact h9.trans (by cases xs.all fun s=>ieq ((rowM ms s).length:Int) (s.Fields.length:Int)<;>rfl)
theorem implMendsOk_e {k:Nat} {xs:List GateShape} {ms:List GateMend} (hk:4194304*7≤k) (hx:sdS GateShape.sd xs) (hm:sdS GateMend.sd ms):impl_GateMendsOk k xs ms=some (mendsOk xs ms):=by
 unfold impl_GateMendsOk mendsOk
 have h4:=fun J:List GateShape→List GateMend→Option Bool=>loop_all (R:=Option Bool) (x:=ms) (p:=mendsOkS xs) (B:=4194304) (l:=fun k i=>iter (ts:=impl_GateMendsOk_L4_ts) (R:=Bool) k (impl_GateMendsOk_L4 J) xs ms ms (ms.length:Int) i) (E:=J xs ms) (O:=some false)
  (fun k=>by simp only [iter,impl_GateMendsOk_L4,ilt_e,cond_false]<;>rfl)
  (fun k i hi hb=>by
   simp only [iter,impl_GateMendsOk_L4,share,ilt_n hi,inb_n hi,cond_true,req_t,nth_i hi,shapeOf_e hb hx.1,Option.bind_some,mendsOkS]
   rw [iadd_n hm.1 hi]
   rcases gidx_find (fun s:GateShape=>seq s.Kind ms[i].Kind) xs with ⟨h1,h2⟩ | ⟨j,hj,h1,h2,_⟩
   ·rw [h1,h2];rfl
   ·rw [h1,h2,ilt_f (by omega),inb_n hj,nth_i hj,implMend_e hb (hx.2 _ (mem_i hj)).2 (hm.2 _ (mem_i hi))]
    simp only
    cases mendOk xs[j].Fields ms[i]<;>rfl) k (by have:=hm.1;omega)
 simp only [share,implShapesOk_e hx (show 4194304*5≤k by omega),Option.bind_some,ilt_not]
 cases hsh:shapesOk xs with
 | false=>rfl
 | true=>
  cases hms:ile (ms.length:Int) 12 with
  | false=>rfl
  | true=>
   refine (h4 _).trans ?_
   cases hall:ms.all (mendsOkS xs) with
   | false=>rfl
   | true=>
    simp only [shapesOk,Bool.and_eq_true,List.all_eq_true] at hsh hall
    obtain ⟨hx6,hasc,hshs⟩:=hsh
    have hnd:=asc_nodup hasc
    have hms':=ile_le hms
    have h11:=loop_all (R:=Option Bool) (x:=xs) (p:=fun s=>ieq ((rowM ms s).length:Int) (s.Fields.length:Int)) (B:=4194304*5) (l:=fun k i=>iter (ts:=impl_GateMendsOk_L11_ts) (R:=Bool) k (impl_GateMendsOk_L11 (some true)) ms xs (xs.length:Int) i) (E:=some true) (O:=some false)
     (fun k=>by simp only [iter,impl_GateMendsOk_L11,ilt_e,cond_false]<;>rfl)
     (fun k i hi hb=>by
      have hs:=hshs _ (mem_i hi)
      simp only [shapeOk,Bool.and_eq_true] at hs
      have h6:=ile_le hs.1
      obtain ⟨b,row,h1,h2,h3⟩:=rowOf_e (ms:=ms) (s:=xs[i]) hm.1
       (fun x _ y hy=>by
        obtain ⟨m,hm1,hm2⟩:=List.mem_flatMap.1 hy
        exact readOf_in hnd (mem_i hi) (hall m hm1) hm2)
       (fun x=>by have:=reads_len (ms:=ms) (kind:=xs[i].Kind) (x:=x);omega) (by omega) hb
      have hiff:=rowM_iff (ms:=ms) (s:=xs[i]) (distF_nodup hs.2.2).1
      have eb:ieq ((rowM ms xs[i]).length:Int) (xs[i].Fields.length:Int)=b:=by
       cases b with
       | true=>
        have:=hiff.2 ⟨row,h2 rfl⟩
        simp only [ieq,beq_iff_eq];omega
       | false=>
        simp only [ieq,beq_eq_false_iff_ne]
        intro h
        have:=h3 (hiff.1 (by omega))
        cases this
      simp only [iter,impl_GateMendsOk_L11,ilt_n hi,inb_n hi,cond_true,req_t,nth_i hi,h1,Option.bind_some,iadd_n hx.1 hi,eb]
      cases b<;>rfl) k (by have:=hx.1;omega)
    exact h11.trans (by cases xs.all fun s=>ieq ((rowM ms s).length:Int) (s.Fields.length:Int)<;>rfl)
end Go.Proofs.Ytljfmaaadnoggaa.Pu
