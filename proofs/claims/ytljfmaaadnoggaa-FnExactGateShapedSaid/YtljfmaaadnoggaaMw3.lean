/- Plain words and laws. No condition. -/
import Derived.Test.YtljfmaaadnoggaaMw2
set_option linter.unusedSimpArgs false
set_option linter.unusedVariables false
namespace Go.Proofs.Ytljfmaaadnoggaa.Pu
open Go Go.RowKit Go.Proofs.Ytljfmaaadnoggaa.Abs Go.Proofs.Ytljfmaaadnoggaa.Fn
section
variable {α R S:Type} {x:List α} {B:Nat}
theorem loop_at (g:Nat→S) {l:Nat→S→Int→R} {E:R} (he:∀ k,l (k+1) (g x.length) (x.length:Int)=E)
  (h:∀ k i (hi:i < x.length),B≤k→l (k+1) (g i) (i:Int)=l k (g (i+1)) ((i+1:Nat):Int)) (k:Nat) (hk:B+x.length+1≤k):l k (g 0) 0=E:=by
 have go:∀ m i k,i+m=x.length→B+m+1≤k→l k (g i) (i:Int)=E:=by
  intro m
  induction m with
  | zero=>
   intro i k h1 h2
   obtain rfl:i=x.length:=by omega
   obtain ⟨k,rfl⟩:∃ j,k=j+1:=⟨k-1,by omega⟩
   exact he k
  | succ m ih=>
   intro i k h1 h2
   obtain ⟨k,rfl⟩:∃ j,k=j+1:=⟨k-1,by omega⟩
   rw [h k i (by omega) (by omega)]
   exact ih (i+1) k (by omega) (by omega)
 exact go x.length 0 k (by omega) (by omega)
end
def opt {β R:Type} (o:Option β) (O:β→R) (E:R):R:=match o with
 | some c=>O c
 | none=>E
theorem loop_opt {α β R:Type} {x:List α} {B:Nat} {g:Nat→α→Option β} {l:Nat→Int→R} {E:R} {O:β→R} (he:∀ k,l (k+1) (x.length:Int)=E)
  (h:∀ k i (hi:i < x.length),B≤k→l (k+1) (i:Int)=opt (g i x[i]) O (l k ((i+1:Nat):Int))) (k:Nat) (hk:B+x.length+1≤k):l k 0=opt (first g x 0) O E:=by
 have:=loop_first (g:=g) (l:=l) (E:=E) (O:=O) he (fun k i hi hb=>by rw [h k i hi hb];cases g i x[i]<;>rfl) k hk
 rw [this]
 cases first g x 0<;>rfl
def lenO (o:GateObject):Prop:=o.Values.length≤1048576∧o.Holds.length≤1048576
theorem lenO_sd {o:GateObject} (h:o.sd):lenO o:=⟨h.2.2.2.1.1,h.2.2.2.2.2.1.1⟩
theorem l2Copy2_e {k:Nat} {o:GateObject} (h:lenO o):spec_l2Copy_2 k o=some (o.Kind,o.Name,o.Team,o.Ending,o.Version,o.Values,o.Holds):=by
 unfold spec_l2Copy_2
 have h1:=h.1
 have h2:=h.2
 rw [appB_t (by simp;omega) (by omega),appB_t (by simp;omega) (by omega)]
 rfl
theorem leq_self (n:Nat):leq n n=true:=by simp [leq]
theorem copyTexts2_e {k:Nat} {x:List Nm} (h:x.length≤1048576):impl_copyTexts_2 k x=some x:=by
 unfold impl_copyTexts_2
 cases x with
 | nil=>rfl
 | cons a r=>
  rw [mkB_t h (by omega),show ieq ((a::r).length:Int) 0=false by simp only [List.length_cons,ieq,beq_eq_false_iff_ne];omega,List.length_replicate,Int.toNat_natCast,leq_self]
  rfl
theorem copyTexts_e {k:Nat} {x:List Nm} (h:x.length≤1048576):impl_copyTexts k x=some x:=by
 unfold impl_copyTexts
 cases x with
 | nil=>rfl
 | cons a r=>
  rw [mkB_t h (by omega),show ieq ((a::r).length:Int) 0=false by simp only [List.length_cons,ieq,beq_eq_false_iff_ne];omega,List.length_replicate,Int.toNat_natCast,leq_self]
  rfl
theorem twin_e {k:Nat} {o:GateObject} (h:lenO o):impl_GateObject_twin k o=some o:=by
 unfold impl_GateObject_twin
 rw [copyTexts_e h.1,copyTexts_e h.2];rfl
theorem twin2_e {k:Nat} {o:GateObject} (h:lenO o):impl_GateObject_twin_2 k o=some (o.Kind,o.Name,o.Team,o.Ending,o.Version,o.Values,o.Holds):=by
 unfold impl_GateObject_twin_2
 rw [copyTexts2_e h.1,copyTexts2_e h.2];rfl
theorem fieldsOf2_e {k:Nat} {xs:List GateShape} (o:GateObject) (hk:4194304≤k) (hx:xs.length≤1048576):impl_fieldsOf_2 k xs o.Kind o.Name o.Team o.Ending o.Version o.Values o.Holds=some ((fieldsM xs o).getD [],(fieldsM xs o).isSome,o.Values,o.Holds):=by
 unfold impl_fieldsOf_2 fieldsM
 rw [shapeOf_e hk hx]
 simp only [share,Option.bind_some]
 rcases gidx_find (fun s:GateShape=>seq s.Kind o.Kind) xs with ⟨h1,h2⟩ | ⟨j,hj,h1,h2,_⟩
 ·rw [h1,h2];rfl
 ·rw [h1,h2,ilt_f (by omega),inb_n hj,nth_i hj,ieq_comm (o.Values.length:Int)]
  simp only
  cases ieq (xs[j].Fields.length:Int) (o.Values.length:Int)<;>rfl
def fillG (d v:Nm):Nm:=cond (seq v []) d v
def fillTo (fs:List GateField) (vs:List Nm) (i:Nat):List Nm:=vs.mapIdx fun j v=>cond (decide (j < i)) (fillG (fs.getD j default).Default v) v
theorem fillTo_len (fs:List GateField) (vs:List Nm) (i:Nat):(fillTo fs vs i).length=vs.length:=by simp [fillTo]
theorem fillTo_0 (fs:List GateField) (vs:List Nm):fillTo fs vs 0=vs:=by
 refine List.ext_getElem (by simp [fillTo]) fun j h1 h2=>?_
 simp [fillTo]
theorem fillTo_get {fs:List GateField} {vs:List Nm} {i:Nat} (hi:i < vs.length):(fillTo fs vs i)[i]'(by rw [fillTo_len];exact hi)=vs[i]:=by simp [fillTo]
theorem fillTo_set {fs:List GateField} {vs:List Nm} {i:Nat} (hi:i < vs.length) (hf:i < fs.length):put' (fillTo fs vs i) (i:Int) (fillG fs[i].Default vs[i])=fillTo fs vs (i+1):=by
 refine List.ext_getElem (by simp [fillTo,put']) fun j h1 h2=>?_
 simp only [put',Int.toNat_natCast,List.getElem_set,fillTo,List.getElem_mapIdx]
 by_cases e:i=j
 ·subst e
  rw [if_pos rfl,decide_eq_true (show i < i+1 by omega),getD_i hf];rfl
 ·rw [if_neg e]
  congr 1
  exact decide_eq_decide.2 (by omega)
theorem fillTo_same {fs:List GateField} {vs:List Nm} {i:Nat} (hi:i < vs.length) (h:seq vs[i] []=false):fillTo fs vs i=fillTo fs vs (i+1):=by
 refine List.ext_getElem (by simp [fillTo]) fun j h1 h2=>?_
 simp only [fillTo,List.getElem_mapIdx]
 by_cases e:i=j
 ·subst e
  rw [decide_eq_true (show i < i+1 by omega),decide_eq_false (show ¬ i < i by omega)]
  simp only [cond_true,cond_false,fillG,h]
 ·congr 1
  exact decide_eq_decide.2 (by omega)
def fillO (xs:List GateShape) (o:GateObject):GateObject:=match fieldsM xs o with
 | some fs=>⟨o.Kind,o.Name,o.Team,fillTo fs o.Values fs.length,o.Ending,o.Holds,o.Version⟩
 | none=>o
theorem fillO_len (xs:List GateShape) (o:GateObject):(fillO xs o).Values.length=o.Values.length∧(fillO xs o).Holds=o.Holds∧(fillO xs o).Kind=o.Kind:=by
 unfold fillO
 cases fieldsM xs o with
 | none=>exact ⟨rfl,rfl,rfl⟩
 | some fs=>exact ⟨fillTo_len ..,rfl,rfl⟩
theorem fillO_fields (xs:List GateShape) (o:GateObject):fieldsM xs (fillO xs o)=fieldsM xs o:=by
 have h:=fillO_len xs o
 conv=>lhs;unfold fieldsM
 rw [h.1,h.2.2]
 rfl
theorem specL2Fill_e {k:Nat} {xs:List GateShape} {o:GateObject} (hk:4194304*2≤k) (hx:xs.length≤1048576) (ho:lenO o):spec_l2Fill k xs o=some (fillO xs o):=by
 unfold spec_l2Fill fillO
 rw [l2Copy2_e ho]
 simp only [Option.bind_some,specFields_e (show 4194304≤k by omega) hx,share]
 cases hf:fieldsM xs o with
 | none=>rfl
 | some fs=>
  have hl:=(fieldsM_some hf).1
  have ho1:=ho.1
  simp only [Option.isSome_some,Option.getD_some,Bool.not_true,cond_false]
  have h:=loop_at (R:=Option GateObject) (x:=fs) (B:=0) (fillTo fs o.Values) (l:=fun k vs i=>iter (ts:=spec_l2Fill_L6_ts) (R:=GateObject) k (spec_l2Fill_L6 (fun (v45:GateObject) (v46:List UInt8) (v47:List UInt8) (v48:List UInt8) (v49:Bool) (v50:Int) (v51:List (List UInt8)) (v52:List (List UInt8))=>some (⟨v46,v47,v48,v51,v49,v52,v50⟩:GateObject))) fs i (⟨([]:List UInt8),([]:List UInt8),([]:List UInt8),[],false,[],(0:Int)⟩:GateObject) o.Kind o.Name o.Team o.Ending o.Version vs o.Holds)
   (E:=some ⟨o.Kind,o.Name,o.Team,fillTo fs o.Values fs.length,o.Ending,o.Holds,o.Version⟩)
   (fun k=>by simp only [iter,spec_l2Fill_L6,ilt_e,cond_false]<;>rfl)
   (fun k i hi _=>by
    have hi':i < (fillTo fs o.Values i).length:=by rw [fillTo_len];omega
    have hi'':i < o.Values.length:=by omega
    simp only [iter,spec_l2Fill_L6,share,ilt_n hi,inb_n hi,inb_n hi',cond_true,req_t,nth_i hi,nth_i hi',iadd_n (show fs.length≤1048576 by omega) hi]
    rw [fillTo_get hi'']
    cases hv:seq o.Values[i] [] with
    | true=>
     rw [← fillTo_set hi'' hi]
     simp only [fillG,hv,cond_true]<;>rfl
    | false=>rw [← fillTo_same hi'' hv];rfl) k (by omega)
  rw [fillTo_0] at h
  exact h
theorem implFill_e {k:Nat} {xs:List GateShape} {o:GateObject} (hk:4194304*5≤k) (hx:sdS GateShape.sd xs) (ho:lenO o):impl_GateFill k xs o=some (cond (shapesOk xs) (fillO xs o) o):=by
 unfold impl_GateFill fillO
 rw [twin2_e ho]
 simp only [Option.bind_some,fieldsOf2_e o (show 4194304≤k by omega) hx.1,share,leq_self,req_t,implShapesOk_e hx hk]
 cases hf:fieldsM xs o with
 | none=>cases shapesOk xs<;>rfl
 | some fs=>
  have hl:=(fieldsM_some hf).1
  have ho1:=ho.1
  simp only [Option.isSome_some,Option.getD_some,Bool.not_true,cond_false]
  cases shapesOk xs with
  | false=>rfl
  | true=>
   have h:=loop_at (R:=Option GateObject) (x:=fs) (B:=0) (fillTo fs o.Values) (l:=fun k vs i=>iter (ts:=impl_GateFill_L6_ts) (R:=GateObject) k (impl_GateFill_L6 (fun (v72:List UInt8) (v73:List UInt8) (v74:List UInt8) (v75:Bool) (v76:Int) (v77:GateObject) (v78:List (List UInt8)) (v79:List (List UInt8))=>some (⟨v72,v73,v74,v78,v75,v79,v76⟩:GateObject))) fs (fs.length:Int) i o.Kind o.Name o.Team o.Ending o.Version (⟨([]:List UInt8),([]:List UInt8),([]:List UInt8),[],false,[],(0:Int)⟩:GateObject) vs o.Holds)
    (E:=some ⟨o.Kind,o.Name,o.Team,fillTo fs o.Values fs.length,o.Ending,o.Holds,o.Version⟩)
    (fun k=>by simp only [iter,impl_GateFill_L6,ilt_e,cond_false]<;>rfl)
    (fun k i hi _=>by
     have hi':i < (fillTo fs o.Values i).length:=by rw [fillTo_len];omega
     have hi'':i < o.Values.length:=by omega
     simp only [iter,impl_GateFill_L6,share,ilt_n hi,inb_n hi,inb_n hi',cond_true,req_t,nth_i hi,nth_i hi',iadd_n (show fs.length≤1048576 by omega) hi]
     rw [fillTo_get hi'']
     cases hv:seq o.Values[i] [] with
     | true=>
      rw [← fillTo_set hi'' hi]
      simp only [fillG,hv,cond_true]<;>rfl
     | false=>rw [← fillTo_same hi'' hv];rfl) k (by omega)
   rw [fillTo_0] at h
   exact h
def nms (fs:List GateField):List Nm:=fs.map (·.Name)
def plN (fs:List GateField) (n:Nm):Nat:=(gidx (fun f=>seq f.Name n) fs 0).toNat
def valN (fs:List GateField) (vs:List Nm) (n:Nm):Nm:=vs.getD (plN fs n) []
theorem pl_ok {fs:List GateField} {n:Nm} (h:n∈nms fs):gidx (fun f=>seq f.Name n) fs 0=(plN fs n:Int)∧∃ hj:plN fs n < fs.length,fs[plN fs n].Name=n:=by
 unfold plN
 rcases gidx_find (fun f:GateField=>seq f.Name n) fs with ⟨h1,h2⟩ | ⟨j,hj,h1,h2,h3⟩
 ·obtain ⟨f,hf,e⟩:=List.mem_map.1 h
  have:=List.find?_eq_none.1 h2 f hf
  rw [seq_iff.2 e] at this
  exact absurd rfl this
 ·rw [h1,Int.toNat_natCast]
  exact ⟨rfl,hj,seq_iff.1 h3⟩
theorem pl_inj {fs:List GateField} {a b:Nm} (ha:a∈nms fs) (hb:b∈nms fs) (h:plN fs a=plN fs b):a=b:=by
 obtain ⟨h1,e1⟩:=(pl_ok ha).2
 obtain ⟨h2,e2⟩:=(pl_ok hb).2
 rw [← e1,← e2];simp only [h]
theorem pl_at {fs:List GateField} (hn:(nms fs).Nodup) {i:Nat} (hi:i < fs.length):plN fs fs[i].Name=i:=by
 have hm:fs[i].Name∈nms fs:=List.mem_map_of_mem (mem_i hi)
 obtain ⟨h1,e1⟩:=(pl_ok hm).2
 have h2:(nms fs)[plN fs fs[i].Name]'(by simpa [nms] using h1)=(nms fs)[i]'(by simpa [nms] using hi):=by simpa [nms] using e1
 exact (List.getElem_inj hn).1 h2
theorem val_set {fs:List GateField} {vs:List Nm} {x y v:Nm} (hl:vs.length=fs.length) (hx:x∈nms fs) (hy:y∈nms fs):valN fs (vs.set (plN fs x) v) y=if y=x then v else valN fs vs y:=by
 obtain ⟨h1,-⟩:=(pl_ok hx).2
 unfold valN
 by_cases e:y=x
 ·subst e
  rw [if_pos rfl]
  simp [List.getD,show plN fs y < vs.length by omega]
 ·rw [if_neg e]
  have:plN fs x≠plN fs y:=fun h=>e (pl_inj hy hx h.symm)
  simp [List.getD,List.getElem?_set,this]
theorem set_self {fs:List GateField} {vs:List Nm} {x:Nm} (hl:vs.length=fs.length) (hx:x∈nms fs):vs.set (plN fs x) (valN fs vs x)=vs:=by
 obtain ⟨h1,-⟩:=(pl_ok hx).2
 refine List.ext_getElem (by simp) fun j h2 h3=>?_
 rw [List.getElem_set]
 by_cases e:plN fs x=j
 ·rw [if_pos e];subst e;exact getD_i h3
 ·rw [if_neg e]
def mendV (kind name:Nm) (e:Nm→Nm) (m:GateMend):Option Nm:=
 cond (seq m.Kind kind&&(seq m.Field name&&(seq m.When []||seq (e m.When) m.Is))) (cond (seq m.From []) (some m.Put) (cond (seq (e m.From) []) none (some (e m.From)))) none
def dec (ms:List GateMend) (kind:Nm) (e:Nm→Nm) (name:Nm):Option Nm:=first (fun _ m=>mendV kind name e m) ms 0
theorem mendV_loc {kind name:Nm} {e e':Nm→Nm} {m:GateMend} (h:∀ y,y∈readOf kind name m→e y=e' y):mendV kind name e m=mendV kind name e' m:=by
 unfold mendV readOf at *
 cases h1:seq m.Kind kind with
 | false=>rfl
 | true=>
  cases h2:seq m.Field name with
  | false=>rfl
  | true=>
   rw [h1,h2] at h
   simp only [Bool.and_self,cond_true,List.mem_append] at h
   have hw:(seq m.When []||seq (e m.When) m.Is)=(seq m.When []||seq (e' m.When) m.Is):=by
    cases h3:seq m.When [] with
    | true=>rfl
    | false=>rw [h m.When (.inl (by rw [h3];simp))]
   have hf:(cond (seq m.From []) (some m.Put) (cond (seq (e m.From) []) none (some (e m.From))))=(cond (seq m.From []) (some m.Put) (cond (seq (e' m.From) []) none (some (e' m.From)))):=by
    cases h3:seq m.From [] with
    | true=>rfl
    | false=>rw [h m.From (.inr (by rw [h3];simp))]
   rw [hw,hf]
theorem dec_loc {ms:List GateMend} {kind name:Nm} {e e':Nm→Nm} (h:∀ y,y∈reads ms kind name→e y=e' y):dec ms kind e name=dec ms kind e' name:=by
 unfold dec
 refine first_ext ms 0 fun j a ha=>mendV_loc fun y hy=>h y ?_
 exact List.mem_flatMap.2 ⟨a,List.mem_of_getElem? ha,hy⟩
def stepV (fs:List GateField) (ms:List GateMend) (kind:Nm) (vs:List Nm) (name:Nm):List Nm:=
 vs.set (plN fs name) ((dec ms kind (valN fs vs) name).getD (valN fs vs name))
def mendVs (fs:List GateField) (ms:List GateMend) (kind:Nm) (row:List Nm) (vs:List Nm):List Nm:=row.foldl (stepV fs ms kind) vs
theorem stepV_len (fs:List GateField) (ms:List GateMend) (kind:Nm) (vs:List Nm) (name:Nm):(stepV fs ms kind vs name).length=vs.length:=by simp [stepV]
theorem mendVs_len (fs:List GateField) (ms:List GateMend) (kind:Nm):∀ (row vs:List Nm),(mendVs fs ms kind row vs).length=vs.length
 | [],_=>rfl
 | a::r,vs=>by
  have:=mendVs_len fs ms kind r (stepV fs ms kind vs a)
  rw [stepV_len] at this
  exact this
structure MInv (fs:List GateField) (ms:List GateMend) (kind:Nm) (vs:List Nm) (pre v:List Nm):Prop where
 len:v.length=fs.length
 eq:∀ n,n∈nms fs→valN fs v n=if n∈pre then (dec ms kind (valN fs v) n).getD (valN fs vs n) else valN fs vs n
theorem mend_step {fs:List GateField} {ms:List GateMend} {kind:Nm} {vs:List Nm} {row:List Nm} (ht:Topo (reads ms kind) row) (hs:∀ y,y∈row→y∈nms fs) {pre post v:List Nm} {x:Nm} (e:row=pre++x::post) (h:MInv fs ms kind vs pre v):MInv fs ms kind vs (pre++[x]) (stepV fs ms kind v x):=by
 have hx:x∈nms fs:=hs x (by rw [e];simp)
 have hnd:=ht.nd
 rw [e] at hnd
 have hxp:x ∉ pre:=fun hm=>(List.nodup_append.1 hnd).2.2 x hm x (by simp) rfl
 have hpre:∀ y,y∈pre→y∈nms fs:=fun y hy=>hs y (by rw [e];simp [hy])
 have hrx:=ht.rd pre x post e
 have hrp:∀ n,n∈pre→∀ y,y∈reads ms kind n→y∈pre:=fun n hn y hy=>by
  obtain ⟨p,q,e'⟩:=List.append_of_mem hn
  have:=ht.rd p n (q++x::post) (by rw [e,e'];simp) y hy
  rw [e'];simp [this]
 have hset:∀ y,y∈nms fs→valN fs (stepV fs ms kind v x) y=if y=x then (dec ms kind (valN fs v) x).getD (valN fs v x) else valN fs v y:=fun y hy=>val_set h.len hx hy
 have hsame:∀ y,y∈pre→valN fs (stepV fs ms kind v x) y=valN fs v y:=fun y hy=>by
  rw [hset y (hpre y hy),if_neg (show ¬ y=x from fun e2=>by subst e2;exact hxp hy)]
 refine ⟨by rw [stepV_len];exact h.len,fun n hn=>?_⟩
 by_cases hnx:n=x
 ·subst hnx
  rw [if_pos (by simp),hset n hn,if_pos rfl,h.eq n hn,if_neg hxp,dec_loc fun y hy=>hsame y (hrx y hy)]
 ·rw [hset n hn,if_neg hnx,h.eq n hn]
  by_cases hp:n∈pre
  ·rw [if_pos hp,if_pos (by simp [hp]),dec_loc fun y hy=>hsame y (hrp n hp y hy)]
  ·rw [if_neg hp,if_neg (by simp [hp,hnx])]
theorem mend_fold {fs:List GateField} {ms:List GateMend} {kind:Nm} {vs:List Nm} {row:List Nm} (ht:Topo (reads ms kind) row) (hs:∀ y,y∈row→y∈nms fs):∀ (post pre v:List Nm),row=pre++post→MInv fs ms kind vs pre v→MInv fs ms kind vs row (mendVs fs ms kind post v)
 | [],pre,v,e,h=>by
  rw [List.append_nil] at e
  rw [e];exact h
 | x::post,pre,v,e,h=>mend_fold ht hs post (pre++[x]) (stepV fs ms kind v x) (by rw [e];simp) (mend_step ht hs e h)
theorem mend_inv {fs:List GateField} {ms:List GateMend} {kind:Nm} {vs:List Nm} {row:List Nm} (hl:vs.length=fs.length) (hL:Full (reads ms kind) (nms fs) row):MInv fs ms kind vs row (mendVs fs ms kind row vs):=
 mend_fold hL.topo hL.sub row [] vs rfl ⟨hl,fun n _=>by simp⟩
theorem mend_unique {fs:List GateField} {ms:List GateMend} {kind:Nm} {vs:List Nm} {r1 r2:List Nm} (hn:(nms fs).Nodup) (hl:vs.length=fs.length) (h1:Full (reads ms kind) (nms fs) r1) (h2:Full (reads ms kind) (nms fs) r2):mendVs fs ms kind r1 vs=mendVs fs ms kind r2 vs:=by
 have i1:=mend_inv hl h1
 have i2:=mend_inv hl h2
 have key:∀ m n,n∈r1→r1.idxOf n < m→valN fs (mendVs fs ms kind r1 vs) n=valN fs (mendVs fs ms kind r2 vs) n:=by
  intro m
  induction m with
  | zero=>intro n _ h;omega
  | succ m ih=>
   intro n hm hi
   have hN:=h1.sub n hm
   rw [i1.eq n hN,i2.eq n hN,if_pos hm,if_pos (h2.all n hN),dec_loc fun y hy=>ih y (h1.topo.lt hm hy).1 (by have:=(h1.topo.lt hm hy).2;omega)]
 refine List.ext_getElem (by rw [mendVs_len,mendVs_len]) fun i h3 h4=>?_
 have hi:i < fs.length:=by rw [mendVs_len] at h3;omega
 have hN:fs[i].Name∈nms fs:=List.mem_map_of_mem (mem_i hi)
 have:=key _ fs[i].Name (h1.all _ hN) (Nat.lt_succ_self _)
 unfold valN at this
 rw [pl_at hn hi,getD_i h3,getD_i h4] at this
 exact this
theorem rowM_isFull {ms:List GateMend} {s:GateShape} (h:(rowM ms s).length=s.Fields.length):Full (reads ms s.Kind) (names s) (rowM ms s):=by
 obtain ⟨h1,h2⟩:=rowM_topo ms s
 refine ⟨h1,fun y hy=>?_,h2⟩
 cases hc:hasN (rowM ms s) y with
 | true=>exact hasN_iff.1 hc
 | false=>
  have hny:y ∉ rowM ms s:=fun hm=>by rw [hasN_iff.2 hm] at hc;cases hc
  have h3:(y::rowM ms s).Nodup:=List.nodup_cons.2 ⟨hny,h1.nd⟩
  have h4:=h3.length_le_of_subset (l₂:=names s) fun z hz=>by
   rcases List.mem_cons.1 hz with e | e
   ·exact e▸hy
   ·exact h2 z e
  simp only [List.length_cons,names,List.length_map] at h4
  omega
theorem mendsOk_shape {xs:List GateShape} {ms:List GateMend} (h:mendsOk xs ms=true) {s:GateShape} (hs:s∈xs):
  (nms s.Fields).Nodup∧s.Fields.length≤6∧Full (reads ms s.Kind) (nms s.Fields) (rowM ms s)∧(∀ x y,y∈reads ms s.Kind x→y∈nms s.Fields)∧ms.length≤12:=by
 simp only [mendsOk,shapesOk,Bool.and_eq_true,List.all_eq_true] at h
 obtain ⟨⟨h1,h2,h3⟩,h4,h5,h6⟩:=h
 have hs':=h3 s hs
 simp only [shapeOk,Bool.and_eq_true] at hs'
 have h7:=h6 s hs
 simp only [ieq,beq_iff_eq] at h7
 refine ⟨(distF_nodup hs'.2.2).1,by have:=ile_le hs'.1;omega,rowM_isFull (by omega),fun x y hy=>?_,by have:=ile_le h4;omega⟩
 obtain ⟨m,hm1,hm2⟩:=List.mem_flatMap.1 hy
 exact readOf_in (asc_nodup h2) hs (h5 m hm1) hm2
def mendO (xs:List GateShape) (ms:List GateMend) (o:GateObject):GateObject:=match xs.find? fun s=>seq s.Kind o.Kind with
 | some s=>cond (ieq (s.Fields.length:Int) (o.Values.length:Int)) ⟨o.Kind,o.Name,o.Team,mendVs s.Fields ms o.Kind (rowM ms s) o.Values,o.Ending,o.Holds,o.Version⟩ o
 | none=>o
def shapedO (xs:List GateShape) (ms:List GateMend) (o:GateObject):GateObject:=mendO xs ms (fillO xs o)
theorem l3Field_p {k:Nat} {fs:List GateField} {n:Nm} (hk:4194304≤k) (hx:fs.length≤1048576) (h:n∈nms fs):spec_l3Field k fs n=some (plN fs n:Int):=by
 rw [l3Field_e hk hx,(pl_ok h).1]
theorem placeOf_p {k:Nat} {fs:List GateField} {n:Nm} (hk:4194304≤k) (hx:fs.length≤1048576) (h:n∈nms fs):impl_placeOf k fs n=some (plN fs n:Int):=by
 rw [placeOf_e hk hx,(pl_ok h).1]
theorem inb_p {fs:List GateField} {vs:List Nm} {n:Nm} (hl:vs.length=fs.length) (h:n∈nms fs):inb (plN fs n:Int) vs.length=true:=inb_n (by rw [hl];exact (pl_ok h).2.1)
theorem nth_p (fs:List GateField) (vs:List Nm) (n:Nm):nth ([]:List UInt8) vs (plN fs n:Int)=valN fs vs n:=rfl
theorem readOf_when {kind name:Nm} {m:GateMend} (h1:seq m.Kind kind=true) (h2:seq m.Field name=true) (h3:seq m.When []=false):m.When∈readOf kind name m:=by
 simp [readOf,h1,h2,h3]
theorem readOf_from {kind name:Nm} {m:GateMend} (h1:seq m.Kind kind=true) (h2:seq m.Field name=true) (h3:seq m.From []=false):m.From∈readOf kind name m:=by
 simp [readOf,h1,h2,h3]
theorem mem_reads {ms:List GateMend} {kind name y:Nm} {i:Nat} (hi:i < ms.length) (h:y∈readOf kind name ms[i]):y∈reads ms kind name:=List.mem_flatMap.2 ⟨_,mem_i hi,h⟩
theorem l3Decided_l {fs:List GateField} {ms:List GateMend} {o:GateObject} {name:Nm} (hx:fs.length≤1048576) (hm:ms.length≤1048576) (hl:o.Values.length=fs.length) (hR:∀ y,y∈reads ms o.Kind name→y∈nms fs) (J:List GateField→List UInt8→GateObject→Option (List UInt8)) {k:Nat} (hk:4194304*2≤k):
  iter (ts:=spec_l3Decided_L2_ts) (R:=List UInt8) k (spec_l3Decided_L2 J) fs ms name o (0:Int)=opt (dec ms o.Kind (valN fs o.Values) name) some (J fs name o):=by
 exact loop_opt (R:=Option (List UInt8)) (x:=ms) (g:=fun _ m=>mendV o.Kind name (valN fs o.Values) m) (B:=4194304) (l:=fun k i=>iter (ts:=spec_l3Decided_L2_ts) (R:=List UInt8) k (spec_l3Decided_L2 J) fs ms name o i) (E:=J fs name o) (O:=some)
  (fun k=>by simp only [iter,spec_l3Decided_L2,ilt_e,cond_false]<;>rfl)
  (fun k i hi hb=>by
   simp only [iter,spec_l3Decided_L2,share,ilt_n hi,inb_n hi,cond_true,req_t,nth_i hi,iadd_n hm hi,mendV]
   cases h1:seq ms[i].Kind o.Kind with
   | false=>rfl
   | true=>
    cases h2:seq ms[i].Field name with
    | false=>rfl
    | true=>
     have hw:=fun h3=>hR _ (mem_reads hi (readOf_when h1 h2 h3))
     have hf:=fun h3=>hR _ (mem_reads hi (readOf_from h1 h2 h3))
     have from_:∀ X:Option (List UInt8),(cond (seq ms[i].From []) (some ms[i].Put) ((spec_l3Field k fs ms[i].From).bind fun v=>req (inb v o.Values.length) (cond (!seq (nth ([]:List UInt8) o.Values v) []) (some (nth ([]:List UInt8) o.Values v)) X)))
       = opt (cond (seq ms[i].From []) (some ms[i].Put) (cond (seq (valN fs o.Values ms[i].From) []) none (some (valN fs o.Values ms[i].From)))) some X:=fun X=>by
      cases h3:seq ms[i].From [] with
      | true=>rfl
      | false=>
       rw [l3Field_p hb hx (hf h3)]
       simp only [Option.bind_some,cond_false,inb_p hl (hf h3),req_t,nth_p]
       cases seq (valN fs o.Values ms[i].From) []<;>rfl
     cases h3:seq ms[i].When [] with
     | true=>
      simp only [Bool.not_true,cond_false,Bool.true_and,Bool.true_or,cond_true]
      exact from_ (iter (ts:=spec_l3Decided_L2_ts) (R:=List UInt8) k (spec_l3Decided_L2 J) fs ms name o ((i+1:Nat):Int))
     | false=>
      rw [l3Field_p hb hx (hw h3)]
      simp only [Option.bind_some,Bool.not_true,Bool.not_false,cond_true,cond_false,inb_p hl (hw h3),req_t,nth_p,Bool.true_and,Bool.false_or]
      cases seq (valN fs o.Values ms[i].When) ms[i].Is with
      | false=>rfl
      | true=>exact from_ (iter (ts:=spec_l3Decided_L2_ts) (R:=List UInt8) k (spec_l3Decided_L2 J) fs ms name o ((i+1:Nat):Int))) k (by omega)
theorem l3Decided_e {k:Nat} {fs:List GateField} {ms:List GateMend} {o:GateObject} {name:Nm} (hk:4194304*2≤k) (hx:fs.length≤1048576) (hm:ms.length≤1048576) (hl:o.Values.length=fs.length) (hn:name∈nms fs) (hR:∀ y,y∈reads ms o.Kind name→y∈nms fs):
  spec_l3Decided k fs ms o name=some ((dec ms o.Kind (valN fs o.Values) name).getD (valN fs o.Values name)):=by
 unfold spec_l3Decided
 simp only [share]
 rw [l3Decided_l hx hm hl hR _ hk]
 cases dec ms o.Kind (valN fs o.Values) name with
 | some c=>rfl
 | none=>
  simp only [l3Field_p (show 4194304≤k by omega) hx hn,Option.bind_some,inb_p hl hn,req_t,nth_p]
  rfl
theorem l3Row2_e {k:Nat} {ms:List GateMend} {s:GateShape} (hk:4194304*4≤k) (hm:ms.length≤1048576) (hs:s.Fields.length≤1048576):spec_l3Row_2 k s ms=some (rowM ms s):=by
 unfold spec_l3Row_2
 simp only [share]
 have inner:∀ (J:List GateMend→Int→GateShape→List Nm→Option (List Nm)) (n:Int) (row:List Nm) (k:Nat),4194304*3≤k→row.length≤1048576→
   iter (ts:=spec_l3Row_2_L6_ts) (R:=List (List UInt8)) k (spec_l3Row_2_L6 J) ms n (0:Int) s row=J ms n s (stepR ms s row):=by
  intro J n row k hk hr
  have h:=loop_find (x:=s.Fields) (p:=nextF ms s row) (B:=8388608) (l:=fun k i=>iter (ts:=spec_l3Row_2_L6_ts) (R:=List (List UInt8)) k (spec_l3Row_2_L6 J) ms n i s row) (E:=J ms n s row) (O:=fun f=>J ms n s (row++[f.Name]))
   (fun k=>by simp only [iter,spec_l3Row_2_L6,ilt_e,cond_false]<;>rfl)
   (fun k i hi hb=>by
    simp only [iter,spec_l3Row_2_L6,share,ilt_n hi,inb_n hi,cond_true,req_t,nth_i hi,iadd_n hs hi,l1Has_e (show 4194304≤k by omega) hr,l3Ready_e hb hm hr,Option.bind_some,nextF]
    rw [appB_t (by simp;omega) (by omega)]
    have e1:(row.any fun y=>seq y s.Fields[i].Name)=hasN row s.Fields[i].Name:=rfl
    rw [e1]
    cases hasN row s.Fields[i].Name<;>cases readyN ms s.Kind s.Fields[i].Name row<;>rfl) k (by omega)
  refine h.trans ?_
  unfold stepR
  cases s.Fields.find? (nextF ms s row)<;>rfl
 have h:=loop_fold (S:=List Nm) (x:=s.Fields) (f:=fun row _=>stepR ms s row) (B:=4194304*3) (l:=fun k row i=>iter (ts:=spec_l3Row_2_L3_ts) (R:=List (List UInt8)) k (spec_l3Row_2_L3 fun v=>some v) ms i s row) (J:=fun row=>some row) (fun i row=>row.length≤i)
  (fun k row _=>by simp only [iter,spec_l3Row_2_L3,ilt_e,cond_false]<;>rfl)
  (fun k i row hi hb hI=>⟨by
   simp only [iter,spec_l3Row_2_L3,share,ilt_n hi,cond_true]
   refine (inner _ _ _ _ hb (by omega)).trans ?_
   rw [iadd_n hs hi],Nat.le_trans (stepR_len ms s row) (by omega)⟩) k [] (by omega) (by simp)
 exact h
theorem specMended_e {k:Nat} {xs:List GateShape} {ms:List GateMend} {o:GateObject} (hk:4194304*4≤k) (hx:xs.length≤1048576) (ho:lenO o) (hok:mendsOk xs ms=true):spec_l3Mended k xs ms o=some (mendO xs ms o):=by
 unfold spec_l3Mended mendO
 rw [l2Copy2_e ho]
 simp only [Option.bind_some,specFields_e (show 4194304≤k by omega) hx,share,fieldsM,l1Shape_e (show 4194304≤k by omega) hx,fidx_gidx]
 rcases gidx_find (fun s:GateShape=>seq s.Kind o.Kind) xs with ⟨h1,h2⟩ | ⟨j,hj,h1,h2,h3⟩
 ·rw [h1,h2];rfl
 ·rw [h1,h2]
  simp only
  cases he:ieq (xs[j].Fields.length:Int) (o.Values.length:Int) with
  | false=>rfl
  | true=>
   have hl:o.Values.length=xs[j].Fields.length:=by simp only [ieq,beq_iff_eq] at he;omega
   obtain ⟨k1,k2,k3,k4,k5⟩:=mendsOk_shape hok (mem_i hj)
   have hkind:=seq_iff.1 h3
   rw [hkind] at k3 k4
   have hfs:xs[j].Fields.length≤1048576:=by omega
   have hms:ms.length≤1048576:=by omega
   simp only [cond_true,Option.isSome_some,Option.getD_some,Bool.not_true,cond_false,inb_n hj,req_t,nth_i hj,l3Row2_e hk hms hfs,Option.bind_some]
   have hrl:(rowM ms xs[j]).length≤1048576:=by
    have:=k3.topo.nd.length_le_of_subset k3.sub
    simp only [nms,List.length_map] at this;omega
   exact loop_fold (S:=List Nm) (x:=rowM ms xs[j]) (f:=stepV xs[j].Fields ms o.Kind) (B:=4194304*2) (l:=fun k vs i=>iter (ts:=spec_l3Mended_L7_ts) (R:=GateObject) k (spec_l3Mended_L7 (fun (v41:GateObject) (v42:List UInt8) (v43:List UInt8) (v44:List UInt8) (v45:Bool) (v46:Int) (v47:List (List UInt8)) (v48:List (List UInt8))=>some (⟨v42,v43,v44,v47,v45,v48,v46⟩:GateObject))) ms xs[j].Fields i (⟨([]:List UInt8),([]:List UInt8),([]:List UInt8),[],false,[],(0:Int)⟩:GateObject) o.Kind o.Name o.Team o.Ending o.Version (rowM ms xs[j]) vs o.Holds)
    (J:=fun vs=>some ⟨o.Kind,o.Name,o.Team,vs,o.Ending,o.Holds,o.Version⟩) (fun _ vs=>vs.length=xs[j].Fields.length)
    (fun k vs _=>by simp only [iter,spec_l3Mended_L7,ilt_e,cond_false]<;>rfl)
    (fun k i vs hi hb hI=>⟨by
     have hn:=k3.sub _ (mem_i hi)
     have hd:=l3Decided_e (o:=⟨o.Kind,o.Name,o.Team,vs,o.Ending,o.Holds,o.Version⟩) hb hfs hms hI hn (fun y hy=>k4 _ y hy)
     simp only [iter,spec_l3Mended_L7,ilt_n hi,inb_n hi,cond_true,req_t,nth_i hi,iadd_n hrl hi,l3Field_p (show 4194304≤k by omega) hfs hn,hd,Option.bind_some,inb_p hI hn]
     rfl,by rw [stepV_len];exact hI⟩) k o.Values (by omega) hl
theorem mendO_len (xs:List GateShape) (ms:List GateMend) (o:GateObject):(mendO xs ms o).Values.length=o.Values.length∧(mendO xs ms o).Holds=o.Holds:=by
 unfold mendO
 cases xs.find? fun s=>seq s.Kind o.Kind with
 | none=>exact ⟨rfl,rfl⟩
 | some s=>
  simp only
  cases ieq (s.Fields.length:Int) (o.Values.length:Int) with
  | false=>exact ⟨rfl,rfl⟩
  | true=>exact ⟨mendVs_len ..,rfl⟩
theorem fillO_lenO {xs:List GateShape} {o:GateObject} (h:lenO o):lenO (fillO xs o):=by
 have:=fillO_len xs o
 exact ⟨by rw [this.1];exact h.1,by rw [this.2.1];exact h.2⟩
theorem specShaped_e {k:Nat} {xs:List GateShape} {ms:List GateMend} {o:GateObject} (hk:4194304*4≤k) (hx:xs.length≤1048576) (ho:lenO o) (hok:mendsOk xs ms=true):spec_l3Shaped k xs ms o=some (shapedO xs ms o):=by
 unfold spec_l3Shaped
 rw [specL2Fill_e (by omega) hx ho,Option.bind_some,specMended_e hk hx (fillO_lenO ho) hok];rfl
theorem rowString2_l (J:List GateMend→GateShape→List (List UInt8)→Option ((List (List UInt8))×Bool×(List GateMend)×GateShape)):∀ (k:Nat) (ys:List (List UInt8)) (n i:Int) (ms:List GateMend) (s:GateShape) (out:List (List UInt8)) (st:List Pair),
  iter (ts:=impl_row_string__2_L6_ts) (R:=Bool×(List GateMend)×GateShape×(List (List UInt8))) k (impl_row_string__2_L6 fun a b c=>(J a b c).map fun r=>(r.2.1,r.2.2.1,r.2.2.2,r.1)) ys n i ms s out st
  = (iter (ts:=impl_row_string__L6_ts) (R:=(List (List UInt8))×Bool×(List GateMend)×GateShape) k (impl_row_string__L6 J) ys n i ms s out st).map fun r=>(r.2.1,r.2.2.1,r.2.2.2,r.1):=by
 intro k
 induction k with
 | zero=>intros;rfl
 | succ k ih=>
  intro ys n i ms s out st
  simp only [iter,impl_row_string__2_L6,impl_row_string__L6]
  cases ilt i n with
  | false=>rfl
  | true=>
   cases inb i ys.length with
   | false=>rfl
   | true=>
    simp only [cond_true,req_t]
    cases impl_row_string__1 k k (nth ([]:List UInt8) ys i) st ms s out with
    | none=>rfl
    | some r=>
     simp only [Option.bind_some]
     cases r.1 with
     | false=>rfl
     | true=>exact ih _ _ _ _ _ _ _
theorem rowString2_e (k:Nat) (ys:List Nm) (ms:List GateMend) (s:GateShape):impl_row_string__2 k ys ms s=(impl_row_string_ k ys ms s).map fun r=>(r.2.1,r.2.2.1,r.2.2.2,r.1):=
 rowString2_l (fun v23 v24 v25=>some (v25,true,v23,v24)) k ys _ _ ms s _ _
theorem rowOf2_l (J:GateShape→List GateMend→List (List UInt8)→Option ((List (List UInt8))×Bool)) (J2:GateShape→List GateMend→List (List UInt8)→Option (Bool×(List (List UInt8)))) (hJ:∀ a b c,J2 a b c=(J a b c).map fun r=>(r.2,r.1)):∀ (k:Nat) (fs:List GateField) (n i:Int) (s:GateShape) (ms:List GateMend) (out:List (List UInt8)),
  iter (ts:=impl_rowOf_2_L3_ts) (R:=Bool×(List (List UInt8))) k (impl_rowOf_2_L3 J2) fs n i s ms out
  = (iter (ts:=impl_rowOf_L3_ts) (R:=(List (List UInt8))×Bool) k (impl_rowOf_L3 J) fs n i s ms out).map fun r=>(r.2,r.1):=by
 intro k
 induction k with
 | zero=>intros;rfl
 | succ k ih=>
  intro fs n i s ms out
  simp only [iter,impl_rowOf_2_L3,impl_rowOf_L3]
  cases ilt i n with
  | false=>exact hJ _ _ _
  | true=>
   cases inb i fs.length with
   | false=>rfl
   | true=>
    simp only [cond_true,req_t]
    cases appB (out.length+([(nth (default:GateField) fs i).Name]:List (List UInt8)).length) 16 with
    | false=>rfl
    | true=>exact ih _ _ _ _ _ _
theorem rowOf2_e (k:Nat) (s:GateShape) (ms:List GateMend):impl_rowOf_2 k s ms=(impl_rowOf k s ms).map fun r=>(r.2,r.1):=by
 unfold impl_rowOf_2 impl_rowOf
 simp only [share]
 refine rowOf2_l _ _ (fun a b c=>?_) k _ _ _ _ _ _
 rw [rowString2_e]
 cases impl_row_string_ k c b a<;>rfl
theorem mended12_e {k:Nat} {fs:List GateField} {n kd nm tm:Nm} {e:Bool} {v:Int} {vs hs:List Nm} (hk:4194304≤k) (hx:fs.length≤1048576) (hl:vs.length=fs.length) (h:n∈nms fs):impl_GateMended_1_2 k n kd nm tm e v fs vs hs=some (valN fs vs n,kd,nm,tm,e,v,fs,vs,hs):=by
 unfold impl_GateMended_1_2
 rw [placeOf_p hk hx h]
 simp only [Option.bind_some,inb_p hl h,req_t,nth_p]
theorem mended11_l {fs:List GateField} {ms:List GateMend} {name kd nm tm:Nm} {e:Bool} {v:Int} {o:GateObject} {row vs hs:List Nm} {n j:Int} (hx:fs.length≤1048576) (hm:ms.length≤1048576) (hl:vs.length=fs.length) (hn:name∈nms fs) (hR:∀ y,y∈reads ms kd name→y∈nms fs)
  (J:List GateMend→Int→Int→List UInt8→List UInt8→List UInt8→Bool→Int→GateObject→List GateField→List (List UInt8)→List (List UInt8)→List (List UInt8)→Option GateObject) {k:Nat} (hk:4194304*2≤k):
  iter (ts:=impl_GateMended_L11_ts) (R:=GateObject) k (impl_GateMended_L11 J) ms name n j ms (ms.length:Int) (0:Int) kd nm tm e v o fs row vs hs=J ms n j kd nm tm e v o fs row (stepV fs ms kd vs name) hs:=by
 have h:=loop_opt (R:=Option GateObject) (x:=ms) (g:=fun _ m=>mendV kd name (valN fs vs) m) (B:=4194304) (l:=fun k i=>iter (ts:=impl_GateMended_L11_ts) (R:=GateObject) k (impl_GateMended_L11 J) ms name n j ms (ms.length:Int) i kd nm tm e v o fs row vs hs) (E:=J ms n j kd nm tm e v o fs row vs hs) (O:=fun c=>J ms n j kd nm tm e v o fs row (vs.set (plN fs name) c) hs)
  (fun k=>by simp only [iter,impl_GateMended_L11,ilt_e,cond_false]<;>rfl)
  (fun k i hi hb=>by
   simp only [iter,impl_GateMended_L11,share,ilt_n hi,inb_n hi,cond_true,req_t,nth_i hi,iadd_n hm hi,mendV]
   cases h1:seq ms[i].Kind kd with
   | false=>rfl
   | true=>
    cases h2:seq ms[i].Field name with
    | false=>rfl
    | true=>
     have hw:=fun h3=>hR _ (mem_reads hi (readOf_when h1 h2 h3))
     have hf:=fun h3=>hR _ (mem_reads hi (readOf_from h1 h2 h3))
     have hp:=placeOf_p hb hx hn
     have hib:=inb_p hl hn
     cases h4:seq ms[i].From [] with
     | true=>
      cases h3:seq ms[i].When [] with
      | true=>
       simp only [Bool.not_true,cond_false,cond_true,Bool.true_and,Bool.true_or,hp,Option.bind_some,hib,req_t]
       rfl
      | false=>
       simp only [Bool.not_true,Bool.not_false,cond_false,cond_true,Bool.true_and,Bool.false_or,mended12_e hb hx hl (hw h3),Option.bind_some,leq_self,req_t,hp,hib]
       cases seq (valN fs vs ms[i].When) ms[i].Is<;>rfl
     | false=>
      cases h3:seq ms[i].When [] with
      | true=>
       simp only [Bool.not_true,Bool.not_false,cond_false,cond_true,Bool.true_and,Bool.true_or,mended12_e hb hx hl (hf h4),Option.bind_some,leq_self,req_t,hp,hib]
       cases seq (valN fs vs ms[i].From) []<;>rfl
      | false=>
       simp only [Bool.not_true,Bool.not_false,cond_false,cond_true,Bool.true_and,Bool.false_or,mended12_e hb hx hl (hw h3),mended12_e hb hx hl (hf h4),Option.bind_some,leq_self,req_t,hp,hib]
       cases seq (valN fs vs ms[i].When) ms[i].Is<;>cases seq (valN fs vs ms[i].From) []<;>rfl) k (by omega)
 refine h.trans ?_
 unfold stepV
 change opt (dec ms kd (valN fs vs) name) (fun c=>J ms n j kd nm tm e v o fs row (vs.set (plN fs name) c) hs) (J ms n j kd nm tm e v o fs row vs hs)=_
 cases dec ms kd (valN fs vs) name with
 | some c=>rfl
 | none=>
  simp only [Option.getD_none,opt]
  rw [set_self hl hn]
theorem implMended_e {k:Nat} {xs:List GateShape} {ms:List GateMend} {o:GateObject} (hk:4194304*7≤k) (hx:sdS GateShape.sd xs) (hm:sdS GateMend.sd ms) (ho:lenO o):impl_GateMended k xs ms o=some (cond (mendsOk xs ms) (mendO xs ms o) o):=by
 unfold impl_GateMended
 rw [twin2_e ho]
 simp only [Option.bind_some,fieldsOf2_e o (show 4194304≤k by omega) hx.1,share,leq_self,req_t,implMendsOk_e hk hx hm]
 cases hok:mendsOk xs ms with
 | false=>cases (fieldsM xs o).isSome<;>rfl
 | true=>
  simp only [mendO,fieldsM,shapeOf_e (show 4194304≤k by omega) hx.1]
  rcases gidx_find (fun s:GateShape=>seq s.Kind o.Kind) xs with ⟨h1,h2⟩ | ⟨j,hj,h1,h2,h3⟩
  ·rw [h1,h2];rfl
  ·rw [h1,h2]
   simp only
   cases he:ieq (xs[j].Fields.length:Int) (o.Values.length:Int) with
   | false=>rfl
   | true=>
    have hl:o.Values.length=xs[j].Fields.length:=by simp only [ieq,beq_iff_eq] at he;omega
    obtain ⟨k1,k2,k3,k4,k5⟩:=mendsOk_shape hok (mem_i hj)
    have hkind:=seq_iff.1 h3
    have hfs:xs[j].Fields.length≤1048576:=by omega
    have hms:ms.length≤1048576:=by omega
    obtain ⟨b,row,r1,r2,r3⟩:=rowOf_e (ms:=ms) (s:=xs[j]) hms (fun x _ y hy=>k4 x y hy) (fun x=>by have:=reads_len (ms:=ms) (kind:=xs[j].Kind) (x:=x);omega) k2 (show 4194304*5≤k by omega)
    obtain rfl:b=true:=r3 ⟨_,k3⟩
    have hF:=r2 rfl
    simp only [cond_true,Option.isSome_some,Option.getD_some,Bool.not_true,cond_false,Option.bind_some,inb_n hj,req_t,nth_i hj,rowOf2_e,r1,Option.map_some]
    rw [hkind] at k3 k4 hF
    have hrl:row.length≤1048576:=by
     have:=hF.topo.nd.length_le_of_subset hF.sub
     simp only [names,List.length_map] at this;omega
    rw [← mend_unique k1 hl hF k3]
    exact loop_fold (S:=List Nm) (x:=row) (f:=stepV xs[j].Fields ms o.Kind) (B:=4194304*2) (l:=fun k vs i=>iter (ts:=impl_GateMended_L8_ts) (R:=GateObject) k (impl_GateMended_L8 (fun (v984:List UInt8) (v985:List UInt8) (v986:List UInt8) (v987:Bool) (v988:Int) (v989:GateObject) (v990:List (List UInt8)) (v991:List (List UInt8))=>some (⟨v984,v985,v986,v990,v987,v991,v988⟩:GateObject))) ms (row.length:Int) i o.Kind o.Name o.Team o.Ending o.Version (⟨([]:List UInt8),([]:List UInt8),([]:List UInt8),[],false,[],(0:Int)⟩:GateObject) xs[j].Fields row vs o.Holds)
     (J:=fun vs=>some ⟨o.Kind,o.Name,o.Team,vs,o.Ending,o.Holds,o.Version⟩) (fun _ vs=>vs.length=xs[j].Fields.length)
     (fun k vs _=>by simp only [iter,impl_GateMended_L8,ilt_e,cond_false]<;>rfl)
     (fun k i vs hi hb hI=>⟨by
      simp only [iter,impl_GateMended_L8,share,ilt_n hi,inb_n hi,cond_true]
      have hn:nth ([]:List UInt8) row (i:Int)∈nms xs[j].Fields:=by rw [nth_i hi];exact hF.sub _ (mem_i hi)
      change iter (ts:=impl_GateMended_L11_ts) (R:=GateObject) k (impl_GateMended_L11 _) ms (nth [] row (i:Int)) (row.length:Int) (i:Int) ms (ms.length:Int) (0:Int) o.Kind o.Name o.Team o.Ending o.Version _ xs[j].Fields row vs o.Holds=_
      refine (mended11_l hfs hms hI hn (fun y hy=>k4 _ y hy) _ hb).trans ?_
      simp only [nth_i hi]
      rw [iadd_n hrl hi],by rw [stepV_len];exact hI⟩) k o.Values (by omega) hl
theorem implShaped_e {k:Nat} {xs:List GateShape} {ms:List GateMend} {o:GateObject} (hk:4194304*7≤k) (hx:sdS GateShape.sd xs) (hm:sdS GateMend.sd ms) (ho:lenO o):impl_GateShaped k xs ms o=some (cond (mendsOk xs ms) (shapedO xs ms o) o):=by
 unfold impl_GateShaped
 rw [implMendsOk_e hk hx hm,twin_e ho,implFill_e (by omega) hx ho]
 cases hok:mendsOk xs ms with
 | false=>rfl
 | true=>
  have hs:shapesOk xs=true:=by
   simp only [mendsOk,Bool.and_eq_true] at hok;exact hok.1
  simp only [Option.bind_some,Bool.not_true,cond_false,hs,cond_true,implMended_e hk hx hm (fillO_lenO ho),hok]
  rfl
abbrev ObjT:Type:=List UInt8×List UInt8×List UInt8×Bool×Int×List (List UInt8)×List (List UInt8)
def tupO (o:GateObject):ObjT:=(o.Kind,o.Name,o.Team,o.Ending,o.Version,o.Values,o.Holds)
def untO (t:ObjT):GateObject:=⟨t.1,t.2.1,t.2.2.1,t.2.2.2.2.2.1,t.2.2.2.1,t.2.2.2.2.2.2,t.2.2.2.2.1⟩
theorem untO_tup (o:GateObject):untO (tupO o)=o:=rfl
theorem implFill2_e {k:Nat} {xs:List GateShape} {o:GateObject} (hk:4194304*5≤k) (hx:sdS GateShape.sd xs) (ho:lenO o):impl_GateFill_2 k xs o=some (tupO (cond (shapesOk xs) (fillO xs o) o)):=by
 unfold impl_GateFill_2 fillO
 rw [twin2_e ho]
 simp only [Option.bind_some,fieldsOf2_e o (show 4194304≤k by omega) hx.1,share,leq_self,req_t,implShapesOk_e hx hk]
 cases hf:fieldsM xs o with
 | none=>cases shapesOk xs<;>rfl
 | some fs=>
  have hl:=(fieldsM_some hf).1
  have ho1:=ho.1
  simp only [Option.isSome_some,Option.getD_some,Bool.not_true,cond_false]
  cases shapesOk xs with
  | false=>rfl
  | true=>
   have h:=loop_at (R:=Option ObjT) (x:=fs) (B:=0) (fillTo fs o.Values) (l:=fun k vs i=>iter (ts:=impl_GateFill_2_L6_ts) (R:=ObjT) k (impl_GateFill_2_L6 (fun (v72:List UInt8) (v73:List UInt8) (v74:List UInt8) (v75:Bool) (v76:Int) (v77:GateObject) (v78:List (List UInt8)) (v79:List (List UInt8))=>some (v72,v73,v74,v75,v76,v78,v79))) fs (fs.length:Int) i o.Kind o.Name o.Team o.Ending o.Version (⟨([]:List UInt8),([]:List UInt8),([]:List UInt8),[],false,[],(0:Int)⟩:GateObject) vs o.Holds)
    (E:=some (o.Kind,o.Name,o.Team,o.Ending,o.Version,fillTo fs o.Values fs.length,o.Holds))
    (fun k=>by simp only [iter,impl_GateFill_2_L6,ilt_e,cond_false]<;>rfl)
    (fun k i hi _=>by
     have hi':i < (fillTo fs o.Values i).length:=by rw [fillTo_len];omega
     have hi'':i < o.Values.length:=by omega
     simp only [iter,impl_GateFill_2_L6,share,ilt_n hi,inb_n hi,inb_n hi',cond_true,req_t,nth_i hi,nth_i hi',iadd_n (show fs.length≤1048576 by omega) hi]
     rw [fillTo_get hi'']
     cases hv:seq o.Values[i] [] with
     | true=>
      rw [← fillTo_set hi'' hi]
      simp only [fillG,hv,cond_true]<;>rfl
     | false=>rw [← fillTo_same hi'' hv];rfl) k (by omega)
   rw [fillTo_0] at h
   exact h
theorem mended11_l2 {fs:List GateField} {ms:List GateMend} {name kd nm tm:Nm} {e:Bool} {v:Int} {o:GateObject} {row vs hs:List Nm} {n j:Int} (hx:fs.length≤1048576) (hm:ms.length≤1048576) (hl:vs.length=fs.length) (hn:name∈nms fs) (hR:∀ y,y∈reads ms kd name→y∈nms fs)
  (J:List GateMend→Int→Int→List UInt8→List UInt8→List UInt8→Bool→Int→GateObject→List GateField→List (List UInt8)→List (List UInt8)→List (List UInt8)→Option ObjT) {k:Nat} (hk:4194304*2≤k):
  iter (ts:=impl_GateMended_2_L11_ts) (R:=ObjT) k (impl_GateMended_2_L11 J) ms name n j ms (ms.length:Int) (0:Int) kd nm tm e v o fs row vs hs=J ms n j kd nm tm e v o fs row (stepV fs ms kd vs name) hs:=by
 have h:=loop_opt (R:=Option ObjT) (x:=ms) (g:=fun _ m=>mendV kd name (valN fs vs) m) (B:=4194304) (l:=fun k i=>iter (ts:=impl_GateMended_2_L11_ts) (R:=ObjT) k (impl_GateMended_2_L11 J) ms name n j ms (ms.length:Int) i kd nm tm e v o fs row vs hs) (E:=J ms n j kd nm tm e v o fs row vs hs) (O:=fun c=>J ms n j kd nm tm e v o fs row (vs.set (plN fs name) c) hs)
  (fun k=>by simp only [iter,impl_GateMended_2_L11,ilt_e,cond_false]<;>rfl)
  (fun k i hi hb=>by
   simp only [iter,impl_GateMended_2_L11,share,ilt_n hi,inb_n hi,cond_true,req_t,nth_i hi,iadd_n hm hi,mendV]
   cases h1:seq ms[i].Kind kd with
   | false=>rfl
   | true=>
    cases h2:seq ms[i].Field name with
    | false=>rfl
    | true=>
     have hw:=fun h3=>hR _ (mem_reads hi (readOf_when h1 h2 h3))
     have hf:=fun h3=>hR _ (mem_reads hi (readOf_from h1 h2 h3))
     have hp:=placeOf_p hb hx hn
     have hib:=inb_p hl hn
     cases h4:seq ms[i].From [] with
     | true=>
      cases h3:seq ms[i].When [] with
      | true=>
       simp only [Bool.not_true,cond_false,cond_true,Bool.true_and,Bool.true_or,hp,Option.bind_some,hib,req_t]
       rfl
      | false=>
       simp only [Bool.not_true,Bool.not_false,cond_false,cond_true,Bool.true_and,Bool.false_or,mended12_e hb hx hl (hw h3),Option.bind_some,leq_self,req_t,hp,hib]
       cases seq (valN fs vs ms[i].When) ms[i].Is<;>rfl
     | false=>
      cases h3:seq ms[i].When [] with
      | true=>
       simp only [Bool.not_true,Bool.not_false,cond_false,cond_true,Bool.true_and,Bool.true_or,mended12_e hb hx hl (hf h4),Option.bind_some,leq_self,req_t,hp,hib]
       cases seq (valN fs vs ms[i].From) []<;>rfl
      | false=>
       simp only [Bool.not_true,Bool.not_false,cond_false,cond_true,Bool.true_and,Bool.false_or,mended12_e hb hx hl (hw h3),mended12_e hb hx hl (hf h4),Option.bind_some,leq_self,req_t,hp,hib]
       cases seq (valN fs vs ms[i].When) ms[i].Is<;>cases seq (valN fs vs ms[i].From) []<;>rfl) k (by omega)
 refine h.trans ?_
 unfold stepV
 change opt (dec ms kd (valN fs vs) name) (fun c=>J ms n j kd nm tm e v o fs row (vs.set (plN fs name) c) hs) (J ms n j kd nm tm e v o fs row vs hs)=_
 cases dec ms kd (valN fs vs) name with
 | some c=>rfl
 | none=>
  simp only [Option.getD_none,opt]
  rw [set_self hl hn]
theorem implMended2_e {k:Nat} {xs:List GateShape} {ms:List GateMend} {o:GateObject} (hk:4194304*7≤k) (hx:sdS GateShape.sd xs) (hm:sdS GateMend.sd ms) (ho:lenO o):impl_GateMended_2 k xs ms o=some (tupO (cond (mendsOk xs ms) (mendO xs ms o) o)):=by
 unfold impl_GateMended_2
 rw [twin2_e ho]
 simp only [Option.bind_some,fieldsOf2_e o (show 4194304≤k by omega) hx.1,share,leq_self,req_t,implMendsOk_e hk hx hm]
 cases hok:mendsOk xs ms with
 | false=>cases (fieldsM xs o).isSome<;>rfl
 | true=>
  simp only [mendO,fieldsM,shapeOf_e (show 4194304≤k by omega) hx.1]
  rcases gidx_find (fun s:GateShape=>seq s.Kind o.Kind) xs with ⟨h1,h2⟩ | ⟨j,hj,h1,h2,h3⟩
  ·rw [h1,h2];rfl
  ·rw [h1,h2]
   simp only
   cases he:ieq (xs[j].Fields.length:Int) (o.Values.length:Int) with
   | false=>rfl
   | true=>
    have hl:o.Values.length=xs[j].Fields.length:=by simp only [ieq,beq_iff_eq] at he;omega
    obtain ⟨k1,k2,k3,k4,k5⟩:=mendsOk_shape hok (mem_i hj)
    have hkind:=seq_iff.1 h3
    have hfs:xs[j].Fields.length≤1048576:=by omega
    have hms:ms.length≤1048576:=by omega
    obtain ⟨b,row,r1,r2,r3⟩:=rowOf_e (ms:=ms) (s:=xs[j]) hms (fun x _ y hy=>k4 x y hy) (fun x=>by have:=reads_len (ms:=ms) (kind:=xs[j].Kind) (x:=x);omega) k2 (show 4194304*5≤k by omega)
    obtain rfl:b=true:=r3 ⟨_,k3⟩
    have hF:=r2 rfl
    simp only [cond_true,Option.isSome_some,Option.getD_some,Bool.not_true,cond_false,Option.bind_some,inb_n hj,req_t,nth_i hj,rowOf2_e,r1,Option.map_some]
    rw [hkind] at k3 k4 hF
    have hrl:row.length≤1048576:=by
     have:=hF.topo.nd.length_le_of_subset hF.sub
     simp only [names,List.length_map] at this;omega
    rw [← mend_unique k1 hl hF k3]
    exact loop_fold (S:=List Nm) (x:=row) (f:=stepV xs[j].Fields ms o.Kind) (B:=4194304*2) (l:=fun k vs i=>iter (ts:=impl_GateMended_2_L8_ts) (R:=ObjT) k (impl_GateMended_2_L8 (fun (v984:List UInt8) (v985:List UInt8) (v986:List UInt8) (v987:Bool) (v988:Int) (v989:GateObject) (v990:List (List UInt8)) (v991:List (List UInt8))=>some (v984,v985,v986,v987,v988,v990,v991))) ms (row.length:Int) i o.Kind o.Name o.Team o.Ending o.Version (⟨([]:List UInt8),([]:List UInt8),([]:List UInt8),[],false,[],(0:Int)⟩:GateObject) xs[j].Fields row vs o.Holds)
     (J:=fun vs=>some (o.Kind,o.Name,o.Team,o.Ending,o.Version,vs,o.Holds)) (fun _ vs=>vs.length=xs[j].Fields.length)
     (fun k vs _=>by simp only [iter,impl_GateMended_2_L8,ilt_e,cond_false]<;>rfl)
     (fun k i vs hi hb hI=>⟨by
      simp only [iter,impl_GateMended_2_L8,share,ilt_n hi,inb_n hi,cond_true]
      have hn:nth ([]:List UInt8) row (i:Int)∈nms xs[j].Fields:=by rw [nth_i hi];exact hF.sub _ (mem_i hi)
      change iter (ts:=impl_GateMended_2_L11_ts) (R:=ObjT) k (impl_GateMended_2_L11 _) ms (nth [] row (i:Int)) (row.length:Int) (i:Int) ms (ms.length:Int) (0:Int) o.Kind o.Name o.Team o.Ending o.Version _ xs[j].Fields row vs o.Holds=_
      refine (mended11_l2 hfs hms hI hn (fun y hy=>k4 _ y hy) _ hb).trans ?_
      simp only [nth_i hi]
      rw [iadd_n hrl hi],by rw [stepV_len];exact hI⟩) k o.Values (by omega) hl
theorem implShaped2_e {k:Nat} {xs:List GateShape} {ms:List GateMend} {o:GateObject} (hk:4194304*7≤k) (hx:sdS GateShape.sd xs) (hm:sdS GateMend.sd ms) (ho:lenO o):impl_GateShaped_2 k xs ms o=some (tupO (cond (mendsOk xs ms) (shapedO xs ms o) o)):=by
 unfold impl_GateShaped_2
 rw [implMendsOk_e hk hx hm,twin2_e ho,implFill2_e (by omega) hx ho]
 cases hok:mendsOk xs ms with
 | false=>rfl
 | true=>
  have hs:shapesOk xs=true:=by
   simp only [mendsOk,Bool.and_eq_true] at hok;exact hok.1
  rw [hs]
  have h:=implMended2_e hk hx hm (fillO_lenO (xs:=xs) ho)
  rw [hok] at h
  show Option.bind (impl_GateMended_2 k xs ms (untO (tupO (fillO xs o)))) _=_
  rw [untO_tup,h]
  rfl
theorem Yd.ge {α:Type} {F:Nat→Option α} {a:α} (C:Nat) (h:∀ k,C≤k→F k=some a):Yd F a:=⟨C,h⟩
theorem eqStr_len {x:List (List UInt8)} (hx:x.length≤1048576):Yd (fun k=>laws_eqStringS k x x) true:=by
 unfold laws_eqStringS
 exact eqS_y (d:=([]:List UInt8)) (F:=fun _ a b=>some (seq a b)) (l:=fun k i=>iter (ts:=laws_eqStringS_L4_ts) (R:=Bool) k (laws_eqStringS_L4 (some true)) x x i) (by have:=max_eq;omega) (fun _ _=>rfl) (fun y _=>Yd.of fun _=>by rw [seq_self])
theorem eqObj_len {o:GateObject} (h:lenO o):Yd (fun k=>laws_eqGateObject k o o) true:=by
 unfold laws_eqGateObject
 exact Yd.cn (by simp [seq,ieq,Abs.beq]) (Yd.cn (by simp [seq,ieq,Abs.beq]) (Yd.cn (by simp [seq,ieq,Abs.beq]) (Yd.bind (eqStr_len h.1) (Yd.cn (by simp) (Yd.cn (by simp [seq,ieq,Abs.beq]) (Yd.bind (eqStr_len h.2) (Yd.cn (by simp) (Yd.cn (by simp [seq,ieq,Abs.beq]) (Yd.pure)))))))))
theorem wStr_sum (x:List (List UInt8)):mkW wStr x=x.length:=by
 induction x with
 | nil=>rfl
 | cons a r ih=>simp only [mkW,ih,wStr,List.length_cons];omega
theorem markObj_e {k:Nat} {m:Int} {a b c:List UInt8} {e:Bool} {v:Int} {x y:List (List UInt8)} (hk:4194304*2≤k) (hx:x.length≤1048576) (hy:y.length≤1048576) (h0:0≤m) (hm:m≤4611686018420000000):
  laws_markGateObject k a b c e v m x y=some (m+mkW wStr x+mkW wStr y,mkL wStr gStr m x,mkL wStr gStr (m+mkW wStr x) y):=by
 unfold laws_markGateObject
 have h1:=wStr_sum x
 have h2:=wStr_sum y
 rw [laws_markStringS_e hk hx h0 (by omega)]
 simp only [Option.bind_some]
 rw [laws_markStringS_e hk hy (by omega) (by omega)]
 simp only [Option.bind_some,mkL_len,leq_rfl,mreq_t]
theorem heldObj_e {k:Nat} {m:Int} {a b c:List UInt8} {e:Bool} {v:Int} {x y:List (List UInt8)} (hk:4194304*2≤k) (hx:x.length≤1048576) (hy:y.length≤1048576) (h0:0≤m) (hm:m≤4611686018420000000):
  laws_heldGateObject k (⟨a,b,c,mkL wStr gStr m x,e,mkL wStr gStr (m+mkW wStr x) y,v⟩:GateObject) m=some (m+mkW wStr x+mkW wStr y):=by
 unfold laws_heldGateObject
 have h1:=wStr_sum x
 have h2:=wStr_sum y
 simp only
 rw [laws_heldStringS_e hk hx h0 (by omega)]
 simp only [Option.bind_some]
 rw [ilt0_f (by omega)]
 simp only [cond_false]
 rw [laws_heldStringS_e hk hy (by omega) (by omega)]
 simp only [Option.bind_some]
 rw [ilt0_f (by omega)]
 rfl
theorem mkW_B {α:Type} {w:α→Int} {b:Int} {xs:List α} (hx:xs.length≤1048576) (hb:0≤b) (h:∀ x,x∈xs→w x≤b):mkW w xs≤1048576*b:=
 Int.le_trans (mkW_le h) (Int.mul_le_mul_of_nonneg_right (by omega) hb)
theorem wShapes {xs:List GateShape} (h:sdS GateShape.sd xs):0≤mkW wGateShape xs∧mkW wGateShape xs≤1200000000000000000:=by
 refine ⟨mkW_nn wGateShape_nn xs,Int.le_trans (mkW_B (b:=1100000000001) h.1 (by omega) fun s hs=>?_) (by omega)⟩
 have h2:=mkW_B (w:=wGateField) (b:=1048586) (h.2 s hs).2.1 (by omega) fun f hf=>by
  have h3:=((h.2 s hs).2.2 f hf).2.2.2.2.1.1
  unfold wGateField
  rw [wStr_sum]
  omega
 unfold wGateShape
 omega
theorem mendO_lenO {xs:List GateShape} {ms:List GateMend} {o:GateObject} (h:lenO o):lenO (mendO xs ms o):=by
 unfold mendO
 cases xs.find? fun s=>seq s.Kind o.Kind with
 | none=>exact h
 | some s=>
  simp only
  cases ieq (s.Fields.length:Int) (o.Values.length:Int) with
  | false=>exact h
  | true=>exact ⟨by simp only [cond_true,mendVs_len];exact h.1,h.2⟩
theorem wMends {xs:List GateMend} (h:sdS GateMend.sd xs):0≤mkW wGateMend xs∧mkW wGateMend xs≤10000000:=
 ⟨mkW_nn wGateMend_nn xs,Int.le_trans (mkW_B (b:=6) h.1 (by omega) fun s _=>by unfold wGateMend;omega) (by omega)⟩
theorem l2Copy_e {k:Nat} {o:GateObject} (h:lenO o):spec_l2Copy k o=some o:=by
 unfold spec_l2Copy
 have h1:=h.1
 have h2:=h.2
 rw [appB_t (by simp;omega) (by omega),appB_t (by simp;omega) (by omega)]
 rfl
end Go.Proofs.Ytljfmaaadnoggaa.Pu
