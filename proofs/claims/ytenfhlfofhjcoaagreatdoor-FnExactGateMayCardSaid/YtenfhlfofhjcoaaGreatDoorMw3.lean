/- Plain words and laws. No condition. -/
import Derived.Test.YtenfhlfofhjcoaaGreatDoorMw2
set_option linter.unusedSimpArgs false
set_option linter.unusedVariables false
namespace Go.Proofs.YtenfhlfofhjcoaaGreatDoor.Pu
open Go Go.RowKit Go.Proofs.YtenfhlfofhjcoaaGreatDoor.Abs Go.Proofs.YtenfhlfofhjcoaaGreatDoor.Fn
def befO (q:Option GateObject) (o:GateObject):Bool:=match q with
 | none=>true
 | some p=>twoLt p.Kind p.Name o.Kind o.Name
def obj1 (w:GateLaw) (b:GateBook) (q:Option GateObject) (o:GateObject):Bool:=
 (ieq (checkL2 w.Shapes o).1 0&&((teamN w.Teams o.Team).isSome&&(ile 1 o.Version&&ile o.Version b.Now)))&&(befO q o&&(sameT (shapedO w.Shapes w.Mends o).Values o.Values&&linksOk b ((fieldsM w.Shapes o).getD []) o.Values))
def objectsOk (w:GateLaw) (b:GateBook):Bool:=ile (b.Objects.length:Int) 40&&chain (obj1 w b) none b.Objects
theorem shaped_len (xs:List GateShape) (ms:List GateMend) (o:GateObject):(shapedO xs ms o).Values.length=o.Values.length:=by
 unfold shapedO
 rw [(mendO_len ..).1,(fillO_len ..).1]
theorem fieldsD_len (xs:List GateShape) (o:GateObject):((fieldsM xs o).getD []).length≤o.Values.length:=by
 cases hf:fieldsM xs o with
 | none=>simp
 | some fs=>have:=(fieldsM_some hf).1;simp;omega
theorem specObjects_e {k:Nat} {w:GateLaw} {b:GateBook} (hk:4194304*10≤k) (hw:w.sd) (hb:b.sd) (hok:mendsOk w.Shapes w.Mends=true):spec_l5ObjectsOk k w b=some (objectsOk w b):=by
 obtain ⟨-,-,-,hos,-⟩:=hb
 unfold spec_l5ObjectsOk objectsOk
 have h:=loop_chain (R:=Option Bool) (x:=b.Objects) (p:=obj1 w b) (B:=4194304*8) (l:=fun k i=>iter (ts:=spec_l5ObjectsOk_L4_ts) (R:=Bool) k (spec_l5ObjectsOk_L4 (some true)) w b i) (E:=some true) (O:=some false)
  (fun k=>by simp only [iter,spec_l5ObjectsOk_L4,ilt_e,cond_false]<;>rfl)
  (fun k i hi hb'=>by
   have hoi:=hos.2 _ (mem_i hi)
   have hle:=lenO_sd hoi
   have hsl:=shaped_len w.Shapes w.Mends b.Objects[i]
   have hlk:=fun (n:Int) (J:GateLaw→GateBook→Int→Option Bool)=>specLinks_l (w:=w) (b:=b) (n:=n) (o:=b.Objects[i]) hos.1 (fieldsD_len w.Shapes b.Objects[i]) hle.1 J (show 4194304*2≤k by omega)
   simp only [iter,spec_l5ObjectsOk_L4,share,ilt_n hi,inb_n hi,cond_true,req_t,nth_i hi,specL2Check_e (show 4194304*4≤k by omega) hw.1 hoi,l4Team_e (show 4194304≤k by omega) hw.2.2.1,in_e,specShaped_e (show 4194304*4≤k by omega) hw.1.1 hle hok,l5Same_e (show 4194304≤k by omega) (show (shapedO w.Shapes w.Mends b.Objects[i]).Values.length≤1048576 by rw [hsl];exact hle.1),specFields_e (show 4194304≤k by omega) hw.1.1,Option.bind_some,iadd_n hos.1 hi,obj1]
   have tail:∀ c:Bool,cond (!c) (some false) (iter (ts:=spec_l5ObjectsOk_L16_ts) (R:=Bool) k (spec_l5ObjectsOk_L16 fun v666 v667 v668=>iter (ts:=spec_l5ObjectsOk_L4_ts) (R:=Bool) k (spec_l5ObjectsOk_L4 (some true)) v666 v667 (iadd .i64 v668 (1:Int))) w b (i:Int) ((fieldsM w.Shapes b.Objects[i]).getD []) (0:Int) b.Objects[i])
     = cond (c&&linksOk b ((fieldsM w.Shapes b.Objects[i]).getD []) b.Objects[i].Values) (iter (ts:=spec_l5ObjectsOk_L4_ts) (R:=Bool) k (spec_l5ObjectsOk_L4 (some true)) w b ((i+1:Nat):Int)) (some false):=fun c=>by
    have:=hlk (i:Int) fun v666 v667 v668=>iter (ts:=spec_l5ObjectsOk_L4_ts) (R:=Bool) k (spec_l5ObjectsOk_L4 (some true)) v666 v667 (iadd .i64 v668 (1:Int))
    rw [iadd_n hos.1 hi] at this
    cases c with
    | false=>rfl
    | true=>exact this.trans (by cases linksOk b ((fieldsM w.Shapes b.Objects[i]).getD []) b.Objects[i].Values<;>rfl)
   cases ieq (checkL2 w.Shapes b.Objects[i]).1 0 with
   | false=>rfl
   | true=>
    cases (teamN w.Teams b.Objects[i].Team).isSome with
    | false=>rfl
    | true=>
     cases ile 1 b.Objects[i].Version&&ile b.Objects[i].Version b.Now with
     | false=>rfl
     | true=>
      rcases Nat.eq_zero_or_pos i with rfl | h0
      ·simp only [ilt_00,ahead_0,befO,Bool.true_and]
       exact tail _
      ·have hi':i-1 < b.Objects.length:=by omega
       simp only [ilt_0 h0,isub_n h0 (show i≤1048576 by have:=hos.1;omega),inb_n hi',cond_true,req_t,nth_i hi',ahead_s h0 hi,befO,l5Two_e,Option.bind_some,two5_lt,Bool.true_and]
       cases twoLt b.Objects[i-1].Kind b.Objects[i-1].Name b.Objects[i].Kind b.Objects[i].Name with
       | false=>rfl
       | true=>exact tail _) k (by have:=hos.1;omega)
 simp only [share,ilt_not]
 cases ile (b.Objects.length:Int) 40 with
 | false=>rfl
 | true=>exact h.trans (by cases chain (obj1 w b) none b.Objects<;>rfl)
theorem checkL2_M {xs:List GateShape} {o:GateObject} (h:shapesOk xs=true):checkM xs o=checkL2 xs o:=by
 unfold checkM checkL2
 rw [h,Bool.true_and]
theorem team_gidx (x:List GateTeam) (n:Nm):ilt (gidx (fun t:GateTeam=>seq t.Name n) x 0) 0=!(teamN x n).isSome:=by
 unfold teamN
 rcases gidx_find (fun t:GateTeam=>seq t.Name n) x with ⟨k1,k2⟩ | ⟨q,hq,k1,k2,_⟩
 ·rw [k1,k2];rfl
 ·rw [k1,k2,ilt_f (by omega)];rfl
theorem zip_at {fs:List GateField} {vs:List Nm}:∀ t (h:t < (fs.zip vs).length),∃ h':0+t < vs.length,vs[0+t]=(fs.zip vs)[t].2:=fun t h=>by
 have h2:t < vs.length:=by simp at h;omega
 exact ⟨by omega,by simp⟩
theorem implObjects_e {k:Nat} {w:GateLaw} {b:GateBook} (hk:4194304*12≤k) (hw:w.sd) (hb:b.sd) (hok:mendsOk w.Shapes w.Mends=true):impl_GateBook_objectsOk k b w=some (objectsOk w b):=by
 obtain ⟨-,-,-,hos,-⟩:=hb
 have hsh:shapesOk w.Shapes=true:=by simp only [mendsOk,Bool.and_eq_true] at hok;exact hok.1
 unfold impl_GateBook_objectsOk objectsOk
 have h:=loop_chain (R:=Option Bool) (x:=b.Objects) (p:=obj1 w b) (B:=4194304*10) (l:=fun k i=>iter (ts:=impl_GateBook_objectsOk_L4_ts) (R:=Bool) k (impl_GateBook_objectsOk_L4 fun _=>some true) b w b.Objects (b.Objects.length:Int) i false) (E:=some true) (O:=some false)
  (fun k=>by simp only [iter,impl_GateBook_objectsOk_L4,ilt_e,cond_false]<;>rfl)
  (fun k i hi hb'=>by
   have hoi:=hos.2 _ (mem_i hi)
   have hle:=lenO_sd hoi
   have hsl:=shaped_len w.Shapes w.Mends b.Objects[i]
   have tail:∀ c:Bool,cond (!c) (some false) ((impl_links k w b.Objects[i]).bind fun v673=>(i_impl_links_1 k v673.1 v673.2).bind fun v701=>iterL (ts:=impl_GateBook_objectsOk_L16_ts) (R:=Bool) (impl_GateBook_objectsOk_L16 k) (fun (v695:GateBook) (v696:GateLaw) (v697:List GateObject) (v698:Int) (v699:Int) (v700:Bool) (v701:GateObject)=>iter (ts:=impl_GateBook_objectsOk_L4_ts) (R:=Bool) k (impl_GateBook_objectsOk_L4 fun _=>some true) v695 v696 v697 v698 (iadd .i64 v699 (1:Int)) v700) v701 b w b.Objects (b.Objects.length:Int) (i:Int) false b.Objects[i])
     = cond (c&&linksOk b ((fieldsM w.Shapes b.Objects[i]).getD []) b.Objects[i].Values) (iter (ts:=impl_GateBook_objectsOk_L4_ts) (R:=Bool) k (impl_GateBook_objectsOk_L4 fun _=>some true) b w b.Objects (b.Objects.length:Int) ((i+1:Nat):Int) false) (some false):=fun c=>by
    cases c with
    | false=>rfl
    | true=>
     unfold impl_links
     simp only [Bool.not_true,cond_false,Option.bind_some,links_e (show 4194304≤k by omega) hw.1.1 hle.1,Bool.true_and]
     refine (implLinks_l (show 4194304≤k by omega) hos.1 _ _ 0 zip_at).trans ?_
     rw [iadd_n hos.1 hi];rfl
   simp only [iter,impl_GateBook_objectsOk_L4,share,ilt_n hi,inb_n hi,cond_true,req_t,nth_i hi,implCheck_e (show 4194304*6≤k by omega) hw.1 hoi,checkL2_M hsh,teamOf_e (show 4194304≤k by omega) hw.2.2.1,team_gidx,implShaped_e (show 4194304*7≤k by omega) hw.1 hw.2.1 hle,hok,equalTexts_e (show 4194304≤k by omega) (show (shapedO w.Shapes w.Mends b.Objects[i]).Values.length≤1048576 by rw [hsl];exact hle.1),Option.bind_some,obj1,ilt_not b.Objects[i].Version,ilt_not b.Now]
   have tail2:∀ c1:Bool,cond (!c1) (some false) (cond (!(teamN w.Teams b.Objects[i].Team).isSome) (some false) (cond (!ile 1 b.Objects[i].Version) (some false) (cond (!ile b.Objects[i].Version b.Now) (some false) (cond (!sameT (shapedO w.Shapes w.Mends b.Objects[i]).Values b.Objects[i].Values) (some false) ((impl_links k w b.Objects[i]).bind fun v673=>(i_impl_links_1 k v673.1 v673.2).bind fun v701=>iterL (ts:=impl_GateBook_objectsOk_L16_ts) (R:=Bool) (impl_GateBook_objectsOk_L16 k) (fun (v695:GateBook) (v696:GateLaw) (v697:List GateObject) (v698:Int) (v699:Int) (v700:Bool) (v701:GateObject)=>iter (ts:=impl_GateBook_objectsOk_L4_ts) (R:=Bool) k (impl_GateBook_objectsOk_L4 fun _=>some true) v695 v696 v697 v698 (iadd .i64 v699 (1:Int)) v700) v701 b w b.Objects (b.Objects.length:Int) (i:Int) false b.Objects[i])))))
     = cond ((c1&&((teamN w.Teams b.Objects[i].Team).isSome&&(ile 1 b.Objects[i].Version&&ile b.Objects[i].Version b.Now)))&&(sameT (shapedO w.Shapes w.Mends b.Objects[i]).Values b.Objects[i].Values&&linksOk b ((fieldsM w.Shapes b.Objects[i]).getD []) b.Objects[i].Values)) (iter (ts:=impl_GateBook_objectsOk_L4_ts) (R:=Bool) k (impl_GateBook_objectsOk_L4 fun _=>some true) b w b.Objects (b.Objects.length:Int) ((i+1:Nat):Int) false) (some false):=fun c1=>by
    rw [tail]
    cases c1<;>cases (teamN w.Teams b.Objects[i].Team).isSome<;>cases ile 1 b.Objects[i].Version<;>cases ile b.Objects[i].Version b.Now<;>rfl
   rcases Nat.eq_zero_or_pos i with rfl | h0
   ·simp only [ilt_00,ahead_0,befO,Bool.true_and]
    refine Eq.trans ?_ (tail2 _)
    cases ieq (checkL2 w.Shapes b.Objects[0]).1 0 with
    | false=>rfl
    | true=>cases (teamN w.Teams b.Objects[0].Team).isSome<;>cases ile 1 b.Objects[0].Version<;>cases ile b.Objects[0].Version b.Now<;>rfl
   ·have hi':i-1 < b.Objects.length:=by omega
    simp only [ilt_0 h0,isub_n h0 (show i≤1048576 by have:=hos.1;omega),inb_n hi',cond_true,req_t,nth_i hi',ahead_s h0 hi,befO,twoLt]
    cases h1:seq b.Objects[i-1].Kind b.Objects[i].Kind with
    | true=>
     rw [slt_seq h1]
     cases slt b.Objects[i-1].Name b.Objects[i].Name with
     | false=>simp only [Bool.false_or,Bool.true_and,Bool.false_and,Bool.and_false];rfl
     | true=>
      simp only [Bool.false_or,Bool.true_and]
      refine Eq.trans ?_ (tail2 _)
      cases ieq (checkL2 w.Shapes b.Objects[i]).1 0 with
      | false=>rfl
      | true=>cases (teamN w.Teams b.Objects[i].Team).isSome<;>cases ile 1 b.Objects[i].Version<;>cases ile b.Objects[i].Version b.Now<;>rfl
    | false=>
     cases slt b.Objects[i-1].Kind b.Objects[i].Kind with
     | false=>simp only [Bool.false_or,Bool.true_and,Bool.false_and,Bool.and_false];rfl
     | true=>
      simp only [Bool.true_or,Bool.true_and]
      refine Eq.trans ?_ (tail2 _)
      cases ieq (checkL2 w.Shapes b.Objects[i]).1 0 with
      | false=>rfl
      | true=>cases (teamN w.Teams b.Objects[i].Team).isSome<;>cases ile 1 b.Objects[i].Version<;>cases ile b.Objects[i].Version b.Now<;>rfl) k (by have:=hos.1;omega)
 simp only [share,ilt_not]
 cases ile (b.Objects.length:Int) 40 with
 | false=>rfl
 | true=>exact h.trans (by cases chain (obj1 w b) none b.Objects<;>rfl)
def underN (x:List GateTeam):Nat→Nm→Nm→Bool
 | 0,a,b=>seq a b
 | m+1,a,b=>seq a b||(!seq (overN x a) []&&underN x m (overN x a) b)
theorem specUnder_e {k:Nat} {x:List GateTeam} {a b:Nm} (hk:4194304*2≤k) (hx:x.length≤1048576):spec_GateUnder k x a b=some (underN x 4 a b):=by
 have go:∀ (m j k:Nat) (a:Nm),j+m=4→4194304+m+1≤k→cond (seq a b) (some true) (iter (ts:=spec_GateUnder_L4_ts) (R:=Bool) k (spec_GateUnder_L4 (some false)) x a b (j:Int))=some (underN x m a b):=by
  intro m
  induction m with
  | zero=>
   intro j k a h hk
   obtain rfl:j=4:=by omega
   obtain ⟨k,rfl⟩:∃ q,k=q+1:=⟨k-1,by omega⟩
   simp only [iter,spec_GateUnder_L4,underN,ilt_f (show ¬ ((4:Nat):Int) < (4:Int) by omega)]
   cases seq a b<;>rfl
  | succ m ih=>
   intro j k a h hk
   obtain ⟨k,rfl⟩:∃ q,k=q+1:=⟨k-1,by omega⟩
   have h1:=ih (j+1) k (overN x a) (by omega) (by omega)
   simp only [iter,spec_GateUnder_L4,underN,ilt_t (show ((j:Nat):Int) < (4:Int) by omega),cond_true,l4Over_e (show 4194304≤k by omega) hx,Option.bind_some,iadd_n (n:=4) (by omega) (show j < 4 by omega)]
   cases seq a b with
   | true=>rfl
   | false=>
    cases seq (overN x a) [] with
    | true=>rfl
    | false=>exact h1
 exact go 4 0 k a (by omega) (by omega)
theorem implUnder_e {k:Nat} {x:List GateTeam} {a b:Nm} (hk:4194304*2≤k) (hx:x.length≤1048576):impl_GateUnder k x a b=some (underN x 4 a b):=by
 have go:∀ (m j k:Nat) (a:Nm),j+m=4→4194304+m+1≤k→iter (ts:=impl_GateUnder_L2_ts) (R:=Bool) k (impl_GateUnder_L2 (some true)) x a b (j:Int)=some (underN x m a b):=by
  intro m
  induction m with
  | zero=>
   intro j k a h hk
   obtain rfl:j=4:=by omega
   obtain ⟨k,rfl⟩:∃ q,k=q+1:=⟨k-1,by omega⟩
   simp only [iter,impl_GateUnder_L2,share,underN,teamOf_e (show 4194304≤k by omega) hx,Option.bind_some,show ieq ((4:Nat):Int) 4=true from rfl]
   cases seq a b<;>rfl
  | succ m ih=>
   intro j k a h hk
   obtain ⟨k,rfl⟩:∃ q,k=q+1:=⟨k-1,by omega⟩
   have hj:ieq (j:Int) 4=false:=by simp only [ieq,beq_eq_false_iff_ne];omega
   have h1:=ih (j+1) k (overN x a) (by omega) (by omega)
   simp only [iter,impl_GateUnder_L2,share,underN,teamOf_e (show 4194304≤k by omega) hx,Option.bind_some,hj]
   cases seq a b with
   | true=>rfl
   | false=>
    simp only [Bool.not_false,cond_true,cond_false,Bool.false_or]
    rcases gidx_find (fun t:GateTeam=>seq t.Name a) x with ⟨k1,k2⟩ | ⟨q,hq,k1,k2,_⟩
    ·have e:overN x a=[]:=by simp only [overN,teamN,k2]
     rw [k1,e];rfl
    ·have e:overN x a=x[q].Over:=by simp only [overN,teamN,k2]
     rw [k1,ilt_f (by omega),inb_n hq,nth_i hq,e]
     rw [e] at h1
     simp only [cond_false,req_t]
     cases seq x[q].Over [] with
     | true=>rfl
     | false=>
      simp only [cond_false,iadd_n (n:=4) (by omega) (show j < 4 by omega)]
      exact h1
 exact go 4 0 k a (by omega) (by omega)
def numB (q:Option GateGrant) (g:GateGrant):Bool:=match q with
 | none=>true
 | some p=>!ile g.Number p.Number
def grant1 (b:GateBook) (q:Option GateGrant) (g:GateGrant):Bool:=(ile 1 g.Number&&ile g.Number b.Given)&&(numB q g&&(nameOk g.To&&(blankOr g.By&&ruleOk g.Rule)))
def grantsOk (b:GateBook):Bool:=ile (b.Grants.length:Int) 24&&chain (grant1 b) none b.Grants
theorem specGrants_e {k:Nat} {b:GateBook} (hk:4194304*3≤k) (hb:b.sd):spec_l5GrantsOk k b=some (grantsOk b):=by
 obtain ⟨-,-,-,-,hg,-⟩:=hb
 unfold spec_l5GrantsOk grantsOk
 have h:=loop_chain (R:=Option Bool) (x:=b.Grants) (p:=grant1 b) (B:=4194304*2) (l:=fun k i=>iter (ts:=spec_l5GrantsOk_L4_ts) (R:=Bool) k (spec_l5GrantsOk_L4 (some true)) b i) (E:=some true) (O:=some false)
  (fun k=>by simp only [iter,spec_l5GrantsOk_L4,ilt_e,cond_false]<;>rfl)
  (fun k i hi hb'=>by
   obtain ⟨-,g1,g2,g3⟩:=hg.2 _ (mem_i hi)
   simp only [iter,spec_l5GrantsOk_L4,share,ilt_n hi,inb_n hi,cond_true,req_t,nth_i hi,in_e,l1NameOk_e (show 4194304≤k by omega) g1,l1NameOk_e (show 4194304≤k by omega) g2,specRuleOk_e (show 4194304*2≤k by omega) g3,Option.bind_some,iadd_n hg.1 hi,grant1,blankOr]
   rcases Nat.eq_zero_or_pos i with rfl | h0
   ·simp only [ilt_00,ahead_0,numB]
    cases ile 1 b.Grants[0].Number&&ile b.Grants[0].Number b.Given<;>cases nameOk b.Grants[0].To<;>cases seq b.Grants[0].By []<;>cases nameOk b.Grants[0].By<;>cases ruleOk b.Grants[0].Rule<;>rfl
   ·have hi':i-1 < b.Grants.length:=by omega
    simp only [ilt_0 h0,isub_n h0 (show i≤1048576 by have:=hg.1;omega),inb_n hi',cond_true,req_t,nth_i hi',ahead_s h0 hi,numB]
    cases ile 1 b.Grants[i].Number&&ile b.Grants[i].Number b.Given<;>cases ile b.Grants[i].Number b.Grants[i-1].Number<;>cases nameOk b.Grants[i].To<;>cases seq b.Grants[i].By []<;>cases nameOk b.Grants[i].By<;>cases ruleOk b.Grants[i].Rule<;>rfl) k (by have:=hg.1;omega)
 simp only [share,ilt_not]
 cases ile (b.Grants.length:Int) 24 with
 | false=>rfl
 | true=>exact h.trans (by cases chain (grant1 b) none b.Grants<;>rfl)
theorem implGrants_e {k:Nat} {b:GateBook} (hk:4194304*3≤k) (hb:b.sd):impl_GateBook_grantsOk k b=some (grantsOk b):=by
 obtain ⟨-,-,-,-,hg,-⟩:=hb
 unfold impl_GateBook_grantsOk grantsOk
 have h:=loop_chain (R:=Option Bool) (x:=b.Grants) (p:=grant1 b) (B:=4194304*2) (l:=fun k i=>iter (ts:=impl_GateBook_grantsOk_L4_ts) (R:=Bool) k (impl_GateBook_grantsOk_L4 (some true)) b b.Grants (b.Grants.length:Int) i) (E:=some true) (O:=some false)
  (fun k=>by simp only [iter,impl_GateBook_grantsOk_L4,ilt_e,cond_false]<;>rfl)
  (fun k i hi hb'=>by
   obtain ⟨-,g1,g2,g3⟩:=hg.2 _ (mem_i hi)
   simp only [iter,impl_GateBook_grantsOk_L4,share,ilt_n hi,inb_n hi,cond_true,req_t,nth_i hi,isName_e (show 4194304≤k by omega) g1,isName_e (show 4194304≤k by omega) g2,implRuleOk_e (show 4194304*2≤k by omega) g3,Option.bind_some,iadd_n hg.1 hi,grant1,blankOr]
   rw [ilt_not b.Grants[i].Number,ilt_not b.Given]
   rcases Nat.eq_zero_or_pos i with rfl | h0
   ·simp only [ilt_00,ahead_0,numB]
    cases ile 1 b.Grants[0].Number<;>cases ile b.Grants[0].Number b.Given<;>cases nameOk b.Grants[0].To<;>cases seq b.Grants[0].By []<;>cases nameOk b.Grants[0].By<;>cases ruleOk b.Grants[0].Rule<;>rfl
   ·have hi':i-1 < b.Grants.length:=by omega
    simp only [ilt_0 h0,isub_n h0 (show i≤1048576 by have:=hg.1;omega),inb_n hi',cond_true,req_t,nth_i hi',ahead_s h0 hi,numB]
    cases ile 1 b.Grants[i].Number<;>cases ile b.Grants[i].Number b.Given<;>cases ile b.Grants[i].Number b.Grants[i-1].Number<;>cases nameOk b.Grants[i].To<;>cases seq b.Grants[i].By []<;>cases nameOk b.Grants[i].By<;>cases ruleOk b.Grants[i].Rule<;>rfl) k (by have:=hg.1;omega)
 simp only [share,ilt_not]
 cases ile (b.Grants.length:Int) 24 with
 | false=>rfl
 | true=>exact h.trans (by cases chain (grant1 b) none b.Grants<;>rfl)
def weigh1 (res:Nm) (q:GateField×Nm):Int:=cond (ieq q.1.Kind 1&&seq q.1.Weighs res) ((num q.2).getD 0) 0
theorem weigh1_range (res:Nm) (q:GateField×Nm):0≤weigh1 res q∧weigh1 res q < 10000000:=by
 unfold weigh1
 cases ieq q.1.Kind 1&&seq q.1.Weighs res with
 | false=>simp only [cond_false];exact ⟨by decide,by decide⟩
 | true=>
  cases hn:num q.2 with
  | none=>exact ⟨by decide,by decide⟩
  | some v=>exact num_range hn
def weighM (w:GateLaw) (o:GateObject) (res:Nm):Int:=cond ((fieldsM w.Shapes o).isSome&&!seq res []) ((((fieldsM w.Shapes o).getD []).zip o.Values).foldl (fun s q=>s+weigh1 res q) (cond (seq res o.Kind) 1 0)) 0
theorem fold_range {α:Type} {f:α→Int} {M:Int} (hf:∀ a,0≤f a∧f a < M):∀ (l:List α) (s:Int),0≤s→0≤l.foldl (fun s q=>s+f q) s∧l.foldl (fun s q=>s+f q) s≤s+M*(l.length:Int)
 | [],s,h=>by simp [h]
 | a::r,s,h=>by
  have:=fold_range hf r (s+f a) (by have:=hf a;omega)
  have h2:=hf a
  have e:M*((a::r).length:Int)=M*(r.length:Int)+M:=by rw [List.length_cons];push_cast;rw [Int.mul_add,Int.mul_one]
  rw [List.foldl_cons,e]
  omega
theorem weighM_range {w:GateLaw} {o:GateObject} {res:Nm} (ho:o.Values.length≤1048576):0≤weighM w o res∧weighM w o res≤10485760000001:=by
 unfold weighM
 cases (fieldsM w.Shapes o).isSome&&!seq res [] with
 | false=>simp only [cond_false];exact ⟨by decide,by decide⟩
 | true=>
  have h:=fold_range (weigh1_range res) (((fieldsM w.Shapes o).getD []).zip o.Values) (cond (seq res o.Kind) 1 0) (by cases seq res o.Kind<;>decide)
  have hl:(((fieldsM w.Shapes o).getD []).zip o.Values).length≤1048576:=by simp;omega
  have hc:(cond (seq res o.Kind) 1 0:Int)≤1:=by cases seq res o.Kind<;>decide
  simp only [cond_true]
  omega
theorem specWeighs_e {k:Nat} {w:GateLaw} {o:GateObject} {res:Nm} (hk:4194304*2≤k) (hw:w.Shapes.length≤1048576) (ho:o.Values.length≤1048576):spec_GateWeighs k w o res=some (weighM w o res):=by
 unfold spec_GateWeighs weighM
 rw [specFields_e (by omega) hw]
 simp only [Option.bind_some,share]
 cases hf:fieldsM w.Shapes o with
 | none=>rfl
 | some fs=>
  have hl:=(fieldsM_some hf).1
  have hz:=zip_len (a:=fs) (b:=o.Values) (by omega)
  simp only [Option.isSome_some,Option.getD_some,Bool.not_true,Bool.true_and,cond_false]
  cases hr:seq res [] with
  | true=>rfl
  | false=>
   have h:=fun n0:Int=>fun (h0:0≤n0∧n0≤1)=>loop_fold (S:=Int) (x:=fs.zip o.Values) (f:=fun s q=>s+weigh1 res q) (B:=4194304) (l:=fun k s i=>iter (ts:=spec_GateWeighs_L8_ts) (R:=Int) k (spec_GateWeighs_L8 fun v=>some v) res o fs s i) (J:=fun s=>some s) (fun i s=>0≤s∧s≤1+10000000*(i:Int))
    (fun k s _=>by simp only [hz,iter,spec_GateWeighs_L8,ilt_e,cond_false]<;>rfl)
    (fun k i s hi hb hI=>by
     rw [hz] at hi
     have hi':i < o.Values.length:=by omega
     have hw1:=weigh1_range res (fs[i],o.Values[i])
     refine ⟨?_,by rw [List.getElem_zip];push_cast;omega⟩
     simp only [iter,spec_GateWeighs_L8,share,ilt_n hi,inb_n hi,inb_n hi',cond_true,req_t,nth_i hi,nth_i hi',iadd_n (show fs.length≤1048576 by omega) hi,l1Number_e _ hb,Option.bind_some,List.getElem_zip,weigh1]
     cases c1:ieq fs[i].Kind 1 with
     | false=>simp only [cond_false,Bool.false_and,Int.add_zero]<;>rfl
     | true=>
      cases c2:seq fs[i].Weighs res with
      | false=>simp only [cond_false,cond_true,Bool.and_false,Int.add_zero]<;>rfl
      | true=>
       cases hn:num o.Values[i] with
       | none=>simp only [cond_true,Bool.and_self,Option.getD_none,Int.add_zero];rfl
       | some v=>
        have:=num_range hn
        simp only [cond_true,Bool.and_self,Option.getD_some]
        by_cases hv:0 < v
        ·rw [ilt_t hv,iaddn (by omega) (by omega)];rfl
        ·rw [ilt_f hv,show v=0 by omega,Int.add_zero];rfl) k n0 (by rw [hz];omega) ⟨h0.1,by push_cast;omega⟩
   cases seq res o.Kind with
   | true=>exact h 1 ⟨by decide,by decide⟩
   | false=>exact h 0 ⟨by decide,by decide⟩
theorem implWeighs_e {k:Nat} {w:GateLaw} {o:GateObject} {res:Nm} (hk:4194304*2≤k) (hw:w.Shapes.length≤1048576) (ho:o.Values.length≤1048576):impl_GateWeighs k w o res=some (weighM w o res):=by
 unfold impl_GateWeighs weighM
 rw [implFields_e (by omega) hw]
 simp only [Option.bind_some,share]
 cases hf:fieldsM w.Shapes o with
 | none=>rfl
 | some fs=>
  have hl:=(fieldsM_some hf).1
  have hz:=zip_len (a:=fs) (b:=o.Values) (by omega)
  simp only [Option.isSome_some,Option.getD_some,Bool.not_true,Bool.true_and,cond_false]
  cases hr:seq res [] with
  | true=>rfl
  | false=>
   have h:=fun n0:Int=>fun (h0:0≤n0∧n0≤1)=>loop_fold (S:=Int) (x:=fs.zip o.Values) (f:=fun s q=>s+weigh1 res q) (B:=4194304) (l:=fun k s i=>iter (ts:=impl_GateWeighs_L8_ts) (R:=Int) k (impl_GateWeighs_L8 fun v=>some v) res o s fs (fs.length:Int) i) (J:=fun s=>some s) (fun i s=>0≤s∧s≤1+10000000*(i:Int))
    (fun k s _=>by simp only [hz,iter,impl_GateWeighs_L8,ilt_e,cond_false]<;>rfl)
    (fun k i s hi hb hI=>by
     rw [hz] at hi
     have hi':i < o.Values.length:=by omega
     have hw1:=weigh1_range res (fs[i],o.Values[i])
     refine ⟨?_,by rw [List.getElem_zip];push_cast;omega⟩
     simp only [iter,impl_GateWeighs_L8,share,ilt_n hi,inb_n hi,inb_n hi',cond_true,req_t,nth_i hi,nth_i hi',iadd_n (show fs.length≤1048576 by omega) hi,decimal_e _ hb,Option.bind_some,List.getElem_zip,weigh1]
     cases c1:ieq fs[i].Kind 1 with
     | false=>simp only [cond_false,Bool.false_and,Int.add_zero,Bool.not_false,cond_true]<;>rfl
     | true=>
      cases c2:seq fs[i].Weighs res with
      | false=>simp only [cond_false,cond_true,Bool.and_false,Int.add_zero,Bool.not_false,Bool.not_true]<;>rfl
      | true=>
       cases hn:num o.Values[i] with
       | none=>
        have e0:s+0=iadd .i64 s 0:=(iaddn (by omega) (by omega)).symm
        simp only [cond_true,Bool.and_self,Option.getD_none,e0]<;>rfl
       | some v=>
        have:=num_range hn
        have e0:s+v=iadd .i64 s v:=(iaddn (by omega) (by omega)).symm
        simp only [cond_true,Bool.and_self,Option.getD_some,e0]<;>rfl) k n0 (by rw [hz];omega) ⟨h0.1,by push_cast;omega⟩
   cases seq res o.Kind with
   | true=>exact h 1 ⟨by decide,by decide⟩
   | false=>exact h 0 ⟨by decide,by decide⟩
def use1 (w:GateLaw) (team res:Nm) (o:GateObject):Int:=cond (underN w.Teams 4 o.Team team) (weighM w o res) 0
def usedM (w:GateLaw) (b:GateBook) (team res:Nm):Int:=b.Objects.foldl (fun s o=>s+use1 w team res o) 0
theorem specUsed_e {k:Nat} {w:GateLaw} {b:GateBook} {team res:Nm} (hk:4194304*3≤k) (hw:w.sd) (hb:b.sd) (hl:b.Objects.length≤40):spec_GateUsed k w b team res=some (usedM w b team res):=by
 obtain ⟨-,-,-,hos,-⟩:=hb
 unfold spec_GateUsed usedM
 simp only [share]
 exact loop_fold (S:=Int) (x:=b.Objects) (f:=fun s o=>s+use1 w team res o) (B:=4194304*2) (l:=fun k s i=>iter (ts:=spec_GateUsed_L3_ts) (R:=Int) k (spec_GateUsed_L3 fun v=>some v) team res w b s i) (J:=fun s=>some s) (fun i s=>0≤s∧s≤10485760000001*(i:Int))
  (fun k s _=>by simp only [iter,spec_GateUsed_L3,ilt_e,cond_false]<;>rfl)
  (fun k i s hi hb hI=>by
   have hv:=(hos.2 _ (mem_i hi)).2.2.2.1.1
   have hr:=weighM_range (w:=w) (res:=res) hv
   simp only [iter,spec_GateUsed_L3,share,ilt_n hi,inb_n hi,cond_true,req_t,nth_i hi,iadd_n hos.1 hi,specUnder_e hb hw.2.2.1,specWeighs_e hb hw.1.1 hv,Option.bind_some,use1]
   cases underN w.Teams 4 b.Objects[i].Team team with
   | false=>exact ⟨by simp only [cond_false,Int.add_zero]<;>rfl,by simp only [cond_false];push_cast;omega⟩
   | true=>
    have e0:s+weighM w b.Objects[i] res=iadd .i64 s (weighM w b.Objects[i] res):=(iaddn (by omega) (by omega)).symm
    exact ⟨by simp only [cond_true,e0]<;>rfl,by simp only [cond_true];push_cast;omega⟩) k 0 (by omega) (by simp)
theorem implUsed_e {k:Nat} {w:GateLaw} {b:GateBook} {team res:Nm} (hk:4194304*3≤k) (hw:w.sd) (hb:b.sd) (hl:b.Objects.length≤40):impl_GateUsed k w b team res=some (usedM w b team res):=by
 obtain ⟨-,-,-,hos,-⟩:=hb
 unfold impl_GateUsed usedM
 simp only [share]
 exact loop_fold (S:=Int) (x:=b.Objects) (f:=fun s o=>s+use1 w team res o) (B:=4194304*2) (l:=fun k s i=>iter (ts:=impl_GateUsed_L3_ts) (R:=Int) k (impl_GateUsed_L3 fun v=>some v) team res w s b.Objects (b.Objects.length:Int) i) (J:=fun s=>some s) (fun i s=>0≤s∧s≤10485760000001*(i:Int))
  (fun k s _=>by simp only [iter,impl_GateUsed_L3,ilt_e,cond_false]<;>rfl)
  (fun k i s hi hb hI=>by
   have hv:=(hos.2 _ (mem_i hi)).2.2.2.1.1
   have hr:=weighM_range (w:=w) (res:=res) hv
   simp only [iter,impl_GateUsed_L3,share,ilt_n hi,inb_n hi,cond_true,req_t,nth_i hi,iadd_n hos.1 hi,implUnder_e hb hw.2.2.1,implWeighs_e hb hw.1.1 hv,Option.bind_some,use1]
   cases underN w.Teams 4 b.Objects[i].Team team with
   | false=>exact ⟨by simp only [cond_false,Int.add_zero]<;>rfl,by simp only [cond_false];push_cast;omega⟩
   | true=>
    have e0:s+weighM w b.Objects[i] res=iadd .i64 s (weighM w b.Objects[i] res):=(iaddn (by omega) (by omega)).symm
    exact ⟨by simp only [cond_true,e0]<;>rfl,by simp only [cond_true];push_cast;omega⟩) k 0 (by omega) (by simp)
theorem usedM_range {w:GateLaw} {b:GateBook} {team res:Nm} (hb:b.sd) (hl:b.Objects.length≤40):0≤usedM w b team res∧usedM w b team res≤419430400000040:=by
 obtain ⟨-,-,-,hos,-⟩:=hb
 unfold usedM
 have:∀ (l:List GateObject) (s:Int),(∀ o,o∈l→o.Values.length≤1048576)→0≤s→0≤l.foldl (fun s o=>s+use1 w team res o) s∧l.foldl (fun s o=>s+use1 w team res o) s≤s+10485760000001*(l.length:Int):=by
  intro l
  induction l with
  | nil=>intro s _ h;simp [h]
  | cons a r ih=>
   intro s h h0
   have hr:=weighM_range (w:=w) (res:=res) (h a (by simp))
   have hu:0≤use1 w team res a∧use1 w team res a≤10485760000001:=by
    unfold use1
    cases underN w.Teams 4 a.Team team with
    | false=>simp only [cond_false];exact ⟨by decide,by decide⟩
    | true=>exact hr
   have:=ih (s+use1 w team res a) (fun o ho=>h o (by simp [ho])) (by omega)
   rw [List.foldl_cons,List.length_cons]
   push_cast
   omega
 have h:=this b.Objects 0 (fun o ho=>(hos.2 o ho).2.2.2.1.1) (by decide)
 omega
section
variable {α R S:Type} {x:List α} {B:Nat}
theorem loop_chainS {p:Option α→α→Bool} {f:S→α→S} {l:Nat→S→Int→R} {E:S→R} {O:R} (he:∀ k s,l (k+1) s (x.length:Int)=E s)
  (h:∀ k i s (hi:i < x.length),B≤k→l (k+1) s (i:Int)=cond (p (ahead x i) x[i]) (l k (f s x[i]) ((i+1:Nat):Int)) O) (k:Nat) (s:S) (hk:B+x.length+1≤k):l k s 0=cond (chain p none x) (E (x.foldl f s)) O:=by
 have go:∀ m i k s,i+m=x.length→B+m+1≤k→l k s (i:Int)=cond (chain p (ahead x i) (x.drop i)) (E ((x.drop i).foldl f s)) O:=by
  intro m
  induction m with
  | zero=>
   intro i k s h1 h2
   obtain rfl:i=x.length:=by omega
   obtain ⟨k,rfl⟩:∃ j,k=j+1:=⟨k-1,by omega⟩
   simp [he,chain]
  | succ m ih=>
   intro i k s h1 h2
   obtain ⟨k,rfl⟩:∃ j,k=j+1:=⟨k-1,by omega⟩
   have hi:i < x.length:=by omega
   rw [h k i s hi (by omega),List.drop_eq_getElem_cons hi]
   have e:some x[i]=ahead x (i+1):=by simp [ahead]
   simp only [chain,e,List.foldl_cons]
   cases p (ahead x i) x[i] with
   | true=>simpa using ih (i+1) k _ (by omega) (by omega)
   | false=>rfl
 have:=go x.length 0 k s (by omega) (by omega)
 simpa [ahead] using this
end
def eqA (a b:Account):Bool:=seq a.team b.team&&seq a.resource b.resource
theorem eqA_iff {a b:Account}:eqA a b=true↔a=b:=by
 cases a;cases b
 simp only [eqA,Bool.and_eq_true,seq_iff,Account.mk.injEq]
theorem eqA_comm (a b:Account):eqA a b=eqA b a:=by
 rw [Bool.eq_iff_iff,eqA_iff,eqA_iff];exact eq_comm
def getA (a:Account) (m:List Pair2):Int:=mget (fun p:Pair2=>eqA a p.Key) (fun p:Pair2=>p.Val) (0:Int) m
def putA (a:Account) (v:Int) (m:List Pair2):List Pair2:=mput (fun p:Pair2=>eqA a p.Key) m ⟨a,v⟩
theorem getA_put (a c:Account) (v:Int):∀ (m:List Pair2),getA a (putA c v m)=cond (eqA a c) v (getA a m)
 | []=>by
  unfold getA putA
  rw [mput_nil,mget_cons]
 | q::m=>by
  unfold getA putA
  rw [mput_cons]
  cases h:eqA c q.Key with
  | true=>
   have e:=eqA_iff.1 h
   rw [cond_true,mget_cons,mget_cons,← e]
   cases eqA a c<;>rfl
  | false=>
   rw [cond_false,mget_cons,mget_cons]
   have ih:=getA_put a c v m
   unfold getA putA at ih
   rw [ih]
   cases h1:eqA a q.Key with
   | false=>rfl
   | true=>
    have e:=eqA_iff.1 h1
    subst e
    rw [show eqA q.Key c=false by rw [eqA_comm];exact h];rfl
def keyL (g:GateLedger):Account:=⟨g.Team,g.Resource⟩
def ledB (q:Option GateLedger) (g:GateLedger):Bool:=match q with
 | none=>true
 | some p=>twoLt p.Team p.Resource g.Team g.Resource
def led0 (w:GateLaw) (g:GateLedger):Bool:=(teamN w.Teams g.Team).isSome&&(nameOk g.Resource&&(ile 0 g.Free&&(ile g.Free g.Most&&ile g.Most 1000000)))
def led1 (w:GateLaw) (q:Option GateLedger) (g:GateLedger):Bool:=led0 w g&&ledB q g
theorem twoLt_tr {a b c d e f:Nm} (h1:twoLt a b c d=true) (h2:twoLt c d e f=true):twoLt a b e f=true:=by
 simp only [twoLt,Bool.or_eq_true,Bool.and_eq_true] at *
 rcases h1 with h1 | ⟨h1,h3⟩
 ·rcases h2 with h2 | ⟨h2,-⟩
  ·exact .inl (slt_tr h1 h2)
  ·rw [← seq_iff.1 h2];exact .inl h1
 ·rw [seq_iff.1 h1]
  rcases h2 with h2 | ⟨h2,h4⟩
  ·exact .inl h2
  ·exact .inr ⟨h2,slt_tr h3 h4⟩
theorem twoLt_irr (a b:Nm):twoLt a b a b=false:=by
 simp only [twoLt,slt_irr,Bool.and_false,Bool.or_false]
theorem chain_led:∀ {l:List GateLedger} {q:Option GateLedger},chain ledB q l=true→(l.map keyL).Nodup∧∀ p,q=some p→∀ y,y∈l→twoLt p.Team p.Resource y.Team y.Resource=true
 | [],_,_=>⟨List.nodup_nil,fun _ _ _ h=>by cases h⟩
 | a::r,q,h=>by
  simp only [chain,Bool.and_eq_true] at h
  obtain ⟨h1,h2⟩:=h
  obtain ⟨h3,h4⟩:=chain_led h2
  refine ⟨List.nodup_cons.2 ⟨fun hm=>?_,h3⟩,fun p hp y hy=>?_⟩
  ·obtain ⟨y,hy,e⟩:=List.mem_map.1 hm
   have:=h4 a rfl y hy
   simp only [keyL,Account.mk.injEq] at e
   rw [e.1,e.2,twoLt_irr] at this;cases this
  ·subst hp
   rcases List.mem_cons.1 hy with e | e
   ·exact e▸h1
   ·exact twoLt_tr h1 (h4 a rfl y e)
def ledO (b:GateBook) (team res:Nm):Int:=gidx (fun g=>seq g.Team team&&seq g.Resource res) b.Ledgers 0
theorem l5Ledger_e {k:Nat} {b:GateBook} {team res:Nm} (hk:4194304≤k) (hb:b.Ledgers.length≤1048576):spec_l5Ledger k b team res=some (ledO b team res):=by
 unfold spec_l5Ledger
 simp only [share]
 exact loop_gidx (x:=b.Ledgers) (p:=fun g=>seq g.Team team&&seq g.Resource res) (l:=fun k i=>iter (ts:=spec_l5Ledger_L2_ts) (R:=Int) k (spec_l5Ledger_L2 (some (-1))) team res b i)
  (fun k=>by simp only [iter,spec_l5Ledger_L2,ilt_e,cond_false]<;>rfl)
  (fun k i hi=>by
   simp only [iter,spec_l5Ledger_L2,share,ilt_n hi,inb_n hi,cond_true,req_t,nth_i hi,iadd_n hb hi]
   cases seq b.Ledgers[i].Team team<;>rfl) k (by omega)
theorem ledger_e {k:Nat} {b:GateBook} {team res:Nm} (hk:4194304≤k) (hb:b.Ledgers.length≤1048576):impl_GateBook_ledger k b team res=some (ledO b team res):=by
 unfold impl_GateBook_ledger
 simp only [share]
 exact loop_gidx (x:=b.Ledgers) (p:=fun g=>seq g.Team team&&seq g.Resource res) (l:=fun k i=>iter (ts:=impl_GateBook_ledger_L2_ts) (R:=Int) k (impl_GateBook_ledger_L2 (some (-1))) team res b.Ledgers (b.Ledgers.length:Int) i)
  (fun k=>by simp only [iter,impl_GateBook_ledger_L2,ilt_e,cond_false]<;>rfl)
  (fun k i hi=>by
   simp only [iter,impl_GateBook_ledger_L2,share,ilt_n hi,inb_n hi,cond_true,req_t,nth_i hi,iadd_n hb hi]
   cases seq b.Ledgers[i].Team team<;>rfl) k (by omega)
def purP (z p:GatePurse):Bool:=cond (!seq z.Door p.Door) (slt z.Door p.Door) (twoLt z.Team z.Resource p.Team p.Resource)
def purB (q:Option GatePurse) (p:GatePurse):Bool:=match q with
 | none=>true
 | some z=>purP z p
def pur0 (b:GateBook) (p:GatePurse):Bool:=nameOk p.Door&&(!ilt (ledO b p.Team p.Resource) 0&&((ile 1 p.Amount&&ile p.Amount 1000000)&&(ile b.Tick p.Until&&ile p.Until (iadd .i64 b.Tick 10))))
def pur1 (b:GateBook) (q:Option GatePurse) (p:GatePurse):Bool:=pur0 b p&&purB q p
theorem purseKey_e (k:Nat) (a b:GatePurse):∃ v,spec_l5PurseKey k a b=some v∧ile 0 v=!purP a b:=by
 unfold spec_l5PurseKey purP
 cases h:seq a.Door b.Door with
 | true=>exact ⟨_,by simp only [Bool.not_true,cond_false,l5Two_e];rfl,two5_lt ..⟩
 | false=>
  refine ⟨_,by simp only [Bool.not_false,cond_true,l5Key_e];rfl,?_⟩
  unfold key5
  rw [h]
  cases slt a.Door b.Door<;>rfl
theorem purseBefore_e (k:Nat) (a b:GatePurse):impl_purseBefore k a b=some (purP a b):=by
 unfold impl_purseBefore purP twoLt
 cases seq a.Door b.Door with
 | false=>rfl
 | true=>
  cases h:seq a.Team b.Team with
  | false=>simp
  | true=>rw [slt_seq h];rfl
def out1 (a:Account) (p:GatePurse):Int:=cond (eqA a ⟨p.Team,p.Resource⟩) p.Amount 0
def outM (b:GateBook) (a:Account):Int:=b.Purses.foldl (fun s p=>s+out1 a p) 0
def goodP (b:GateBook):Prop:=∀ p,p∈b.Purses→1≤p.Amount∧p.Amount≤1000000
theorem chain_pur {b:GateBook}:∀ {l:List GatePurse} {q:Option GatePurse},chain (pur1 b) q l=true→∀ p,p∈l→1≤p.Amount∧p.Amount≤1000000
 | [],_,_,_,h=>by cases h
 | a::r,q,h,p,hp=>by
  simp only [chain,Bool.and_eq_true] at h
  rcases List.mem_cons.1 hp with e | e
  ·subst e
   simp only [pur1,pur0,Bool.and_eq_true] at h
   obtain ⟨⟨⟨-,-,⟨h1,h2⟩,-⟩,-⟩,-⟩:=h
   exact ⟨ile_le h1,ile_le h2⟩
  ·exact chain_pur h.2 p e
theorem out_fold {a:Account}:∀ (l:List GatePurse) (s:Int),(∀ p,p∈l→1≤p.Amount∧p.Amount≤1000000)→l.foldl (fun s p=>s+out1 a p) s=s+l.foldl (fun s p=>s+out1 a p) 0∧0≤l.foldl (fun s p=>s+out1 a p) 0∧l.foldl (fun s p=>s+out1 a p) 0≤1000000*(l.length:Int)
 | [],s,_=>by simp
 | p::r,s,h=>by
  have h1:0≤out1 a p∧out1 a p≤1000000:=by
   have:=h p (by simp)
   unfold out1
   cases eqA a ⟨p.Team,p.Resource⟩ with
   | true=>simp only [cond_true];omega
   | false=>simp only [cond_false];omega
  have ih1:=out_fold (a:=a) r (s+out1 a p) (fun q hq=>h q (by simp [hq]))
  have ih2:=out_fold (a:=a) r (0+out1 a p) (fun q hq=>h q (by simp [hq]))
  rw [List.foldl_cons,List.foldl_cons,List.length_cons]
  push_cast
  omega
theorem specOut_e {k:Nat} {b:GateBook} {team res:Nm} (hk:4194304≤k) (hl:b.Purses.length≤1048576) (hg:goodP b):spec_l5Out k b team res=some (outM b ⟨team,res⟩):=by
 unfold spec_l5Out outM
 simp only [share]
 exact loop_fold (S:=Int) (x:=b.Purses) (f:=fun s p=>s+out1 ⟨team,res⟩ p) (B:=0) (l:=fun k s i=>iter (ts:=spec_l5Out_L3_ts) (R:=Int) k (spec_l5Out_L3 fun v=>some v) team res b s i) (J:=fun s=>some s) (fun i s=>0≤s∧s≤1000000*(i:Int))
  (fun k s _=>by simp only [iter,spec_l5Out_L3,ilt_e,cond_false]<;>rfl)
  (fun k i s hi hb hI=>by
   have hv:=hg _ (mem_i hi)
   have e0:s+b.Purses[i].Amount=iadd .i64 s b.Purses[i].Amount:=(iaddn (by omega) (by omega)).symm
   simp only [iter,spec_l5Out_L3,share,ilt_n hi,inb_n hi,cond_true,req_t,nth_i hi,iadd_n hl hi,out1,eqA]
   rw [seq_comm team,seq_comm res]
   cases seq b.Purses[i].Team team with
   | false=>exact ⟨by simp only [cond_false,Bool.false_and,Int.add_zero]<;>rfl,by simp only [cond_false,Bool.false_and];push_cast;omega⟩
   | true=>
    cases seq b.Purses[i].Resource res with
    | false=>exact ⟨by simp only [cond_false,Bool.and_false,Int.add_zero]<;>rfl,by simp only [cond_false,Bool.and_false];push_cast;omega⟩
    | true=>exact ⟨by simp only [cond_true,Bool.and_self,e0]<;>rfl,by simp only [cond_true,Bool.and_self];push_cast;omega⟩) k 0 (by omega) (by simp)
def sumL (w:GateLaw) (b:GateBook) (g:GateLedger):Bool:=ieq (usedM w b g.Team g.Resource+outM b (keyL g)+g.Free) g.Most
def sumsOk (w:GateLaw) (b:GateBook):Bool:=(ile (b.Ledgers.length:Int) 10&&ile (b.Purses.length:Int) 24)&&(chain (pur1 b) none b.Purses&&(chain (led1 w) none b.Ledgers&&b.Ledgers.all (sumL w b)))
theorem specLedgers_l {w:GateLaw} {b:GateBook} {k:Nat} (hk:4194304*5≤k) (hw:w.sd) (hb:b.sd) (hl:b.Objects.length≤40) (hg:goodP b):
  iter (ts:=spec_l5SumsOk_L10_ts) (R:=Bool) k (spec_l5SumsOk_L10 (some true)) w b (0:Int)=some (chain (led1 w) none b.Ledgers&&b.Ledgers.all (sumL w b)):=by
 have hb':=hb
 obtain ⟨-,-,-,-,-,hle,hpu⟩:=hb
 have h:=loop_chain (R:=Option Bool) (x:=b.Ledgers) (p:=fun q g=>led1 w q g&&sumL w b g) (B:=4194304*3) (l:=fun k i=>iter (ts:=spec_l5SumsOk_L10_ts) (R:=Bool) k (spec_l5SumsOk_L10 (some true)) w b i) (E:=some true) (O:=some false)
  (fun k=>by simp only [iter,spec_l5SumsOk_L10,ilt_e,cond_false]<;>rfl)
  (fun k i hi hbk=>by
   have hgi:=hle.2 _ (mem_i hi)
   simp only [iter,spec_l5SumsOk_L10,share,ilt_n hi,inb_n hi,cond_true,req_t,nth_i hi,l4Team_e (show 4194304≤k by omega) hw.2.2.1,l1NameOk_e (show 4194304≤k by omega) hgi.2.1,specUsed_e (team:=b.Ledgers[i].Team) (res:=b.Ledgers[i].Resource) hbk hw hb' hl,specOut_e (team:=b.Ledgers[i].Team) (res:=b.Ledgers[i].Resource) (show 4194304≤k by omega) hpu.1 hg,Option.bind_some,iadd_n hle.1 hi,led1,led0,ilt_not,sumL,keyL]
   have hu:=usedM_range (w:=w) (team:=b.Ledgers[i].Team) (res:=b.Ledgers[i].Resource) hb' hl
   have ho:=(out_fold (a:=⟨b.Ledgers[i].Team,b.Ledgers[i].Resource⟩) b.Purses 0 hg).2
   have ho':0≤outM b ⟨b.Ledgers[i].Team,b.Ledgers[i].Resource⟩∧outM b ⟨b.Ledgers[i].Team,b.Ledgers[i].Resource⟩≤1000000*(b.Purses.length:Int):=ho
   have hpl:=hpu.1
   cases (teamN w.Teams b.Ledgers[i].Team).isSome with
   | false=>rfl
   | true=>
    cases nameOk b.Ledgers[i].Resource with
    | false=>rfl
    | true=>
     cases f1:ile 0 b.Ledgers[i].Free with
     | false=>rfl
     | true=>
      cases f2:ile b.Ledgers[i].Free b.Ledgers[i].Most with
      | false=>rfl
      | true=>
       cases f3:ile b.Ledgers[i].Most 1000000 with
       | false=>rfl
       | true=>
        have f1':=ile_le f1
        have f2':=ile_le f2
        have f3':=ile_le f3
        rw [iaddn (m:=usedM w b b.Ledgers[i].Team b.Ledgers[i].Resource) (by omega) (by omega),iaddn (by omega) (by omega)]
        rcases Nat.eq_zero_or_pos i with rfl | h0
        ·simp only [Bool.not_true,cond_false,ile_t (show (((0:Nat):Int))≤0 by omega),ahead_0,ledB,Bool.and_self,Bool.true_and]
         cases ieq (usedM w b b.Ledgers[0].Team b.Ledgers[0].Resource+outM b ⟨b.Ledgers[0].Team,b.Ledgers[0].Resource⟩+b.Ledgers[0].Free) b.Ledgers[0].Most<;>rfl
        ·have hi':i-1 < b.Ledgers.length:=by omega
         simp only [Bool.not_true,Bool.not_false,cond_true,cond_false,ile_f (show ¬ ((i:Int))≤0 by omega),isub_n h0 (show i≤1048576 by have:=hle.1;omega),inb_n hi',req_t,nth_i hi',ahead_s h0 hi,ledB,l5Two_e,Option.bind_some,two5_lt,Bool.and_self,Bool.true_and]
         cases twoLt b.Ledgers[i-1].Team b.Ledgers[i-1].Resource b.Ledgers[i].Team b.Ledgers[i].Resource<;>cases ieq (usedM w b b.Ledgers[i].Team b.Ledgers[i].Resource+outM b ⟨b.Ledgers[i].Team,b.Ledgers[i].Resource⟩+b.Ledgers[i].Free) b.Ledgers[i].Most<;>rfl) k (by have:=hle.1;omega)
 rw [chain_and,chain_all] at h
 exact h.trans (by cases chain (led1 w) none b.Ledgers&&b.Ledgers.all (sumL w b)<;>rfl)
theorem specSums_e {k:Nat} {w:GateLaw} {b:GateBook} (hk:4194304*5≤k) (hw:w.sd) (hb:b.sd) (hl:b.Objects.length≤40):spec_l5SumsOk k w b=some (sumsOk w b):=by
 have hb':=hb
 obtain ⟨-,-,-,-,-,hle,hpu⟩:=hb
 unfold spec_l5SumsOk sumsOk
 have h:=fun J:GateLaw→GateBook→Option Bool=>loop_chain (R:=Option Bool) (x:=b.Purses) (p:=pur1 b) (B:=4194304*2) (l:=fun k i=>iter (ts:=spec_l5SumsOk_L4_ts) (R:=Bool) k (spec_l5SumsOk_L4 J) w b i) (E:=J w b) (O:=some false)
  (fun k=>by simp only [iter,spec_l5SumsOk_L4,ilt_e,cond_false]<;>rfl)
  (fun k i hi hbk=>by
   have hpi:=hpu.2 _ (mem_i hi)
   simp only [iter,spec_l5SumsOk_L4,share,ilt_n hi,inb_n hi,cond_true,req_t,nth_i hi,l1NameOk_e (show 4194304≤k by omega) hpi.1,l5Ledger_e (show 4194304≤k by omega) hle.1,in_e,Option.bind_some,iadd_n hpu.1 hi,pur1,pur0]
   rcases Nat.eq_zero_or_pos i with rfl | h0
   ·simp only [ilt_00,ahead_0,purB]
    cases nameOk b.Purses[0].Door<;>cases ilt (ledO b b.Purses[0].Team b.Purses[0].Resource) 0<;>cases ile 1 b.Purses[0].Amount&&ile b.Purses[0].Amount 1000000<;>cases ile b.Tick b.Purses[0].Until&&ile b.Purses[0].Until (iadd .i64 b.Tick 10)<;>rfl
   ·have hi':i-1 < b.Purses.length:=by omega
    obtain ⟨v,v1,v2⟩:=purseKey_e k b.Purses[i-1] b.Purses[i]
    simp only [ilt_0 h0,isub_n h0 (show i≤1048576 by have:=hpu.1;omega),inb_n hi',cond_true,req_t,nth_i hi',ahead_s h0 hi,v1,v2,Option.bind_some,purB]
    cases nameOk b.Purses[i].Door<;>cases ilt (ledO b b.Purses[i].Team b.Purses[i].Resource) 0<;>cases ile 1 b.Purses[i].Amount&&ile b.Purses[i].Amount 1000000<;>cases ile b.Tick b.Purses[i].Until&&ile b.Purses[i].Until (iadd .i64 b.Tick 10)<;>cases purP b.Purses[i-1] b.Purses[i]<;>rfl) k (by have:=hpu.1;omega)
 simp only [share,ilt_not]
 cases ile (b.Ledgers.length:Int) 10 with
 | false=>rfl
 | true=>
  cases ile (b.Purses.length:Int) 24 with
  | false=>rfl
  | true=>
   refine (h _).trans ?_
   cases hc:chain (pur1 b) none b.Purses with
   | false=>rfl
   | true=>exact (specLedgers_l hk hw hb' hl fun p hp=>chain_pur hc p hp).trans rfl
theorem all_ext {α:Type} {p q:α→Bool}:∀ {l:List α},(∀ a,a∈l→p a=q a)→l.all p=l.all q
 | [],_=>rfl
 | a::r,h=>by rw [List.all_cons,List.all_cons,h a (by simp),all_ext (l:=r) fun b hb=>h b (by simp [hb])]
def mLed (w:GateLaw) (b:GateBook) (m:List Pair2) (g:GateLedger):List Pair2:=putA (keyL g) (iadd .i64 g.Free (usedM w b g.Team g.Resource)) m
def keyP (p:GatePurse):Account:=⟨p.Team,p.Resource⟩
def mPur (m:List Pair2) (p:GatePurse):List Pair2:=putA (keyP p) (iadd .i64 (getA (keyP p) m) p.Amount) m
theorem eqA_ne {a b:Account} (h:a≠b):eqA a b=false:=by
 cases e:eqA a b with
 | false=>rfl
 | true=>exact absurd (eqA_iff.1 e) h
theorem eqA_self (a:Account):eqA a a=true:=eqA_iff.2 rfl
theorem mLed_other {w:GateLaw} {b:GateBook} {a:Account}:∀ (l:List GateLedger) (m:List Pair2),(∀ g,g∈l→a≠keyL g)→getA a (l.foldl (mLed w b) m)=getA a m
 | [],_,_=>rfl
 | g::r,m,h=>by
  rw [List.foldl_cons,mLed_other r _ fun x hx=>h x (by simp [hx])]
  unfold mLed
  rw [getA_put,eqA_ne (h g (by simp))];rfl
theorem mLed_get {w:GateLaw} {b:GateBook}:∀ (l:List GateLedger) (m:List Pair2),(l.map keyL).Nodup→∀ g,g∈l→getA (keyL g) (l.foldl (mLed w b) m)=iadd .i64 g.Free (usedM w b g.Team g.Resource)
 | [],_,_,_,h=>by cases h
 | g::r,m,hn,x,hx=>by
  simp only [List.map_cons,List.nodup_cons] at hn
  rw [List.foldl_cons]
  rcases List.mem_cons.1 hx with e | e
  ·subst e
   rw [mLed_other r _ fun y hy e=>hn.1 (by rw [e];exact List.mem_map_of_mem hy)]
   unfold mLed
   rw [getA_put,eqA_self];rfl
  ·exact mLed_get r _ hn.2 x e
theorem mPur_get {a:Account}:∀ (l:List GatePurse) (m:List Pair2),(∀ p,p∈l→1≤p.Amount∧p.Amount≤1000000)→0≤getA a m→getA a m+1000000*(l.length:Int)≤9223372036854775807→getA a (l.foldl mPur m)=getA a m+l.foldl (fun s p=>s+out1 a p) 0
 | [],m,_,_,_=>by simp
 | p::r,m,h,h0,h1=>by
  have hp:=h p (by simp)
  have hr:∀ q,q∈r→1≤q.Amount∧q.Amount≤1000000:=fun q hq=>h q (by simp [hq])
  rw [List.length_cons] at h1
  push_cast at h1
  have hg:getA a (mPur m p)=getA a m+out1 a p:=by
   unfold mPur out1
   rw [getA_put]
   have ek:(⟨p.Team,p.Resource⟩:Account)=keyP p:=rfl
   rw [ek]
   cases e:eqA a (keyP p) with
   | false=>simp only [cond_false,Int.add_zero]
   | true=>
    simp only [cond_true]
    rw [← eqA_iff.1 e,iaddn (by omega) (by omega)]
  have ho:0≤out1 a p∧out1 a p≤1000000:=by
   unfold out1
   cases eqA a ⟨p.Team,p.Resource⟩ with
   | true=>simp only [cond_true];omega
   | false=>simp only [cond_false];omega
  rw [List.foldl_cons,mPur_get r (mPur m p) hr (by omega) (by omega),hg,List.foldl_cons,(out_fold (a:=a) r (0+out1 a p) hr).1]
  omega
theorem implSums_e {k:Nat} {w:GateLaw} {b:GateBook} (hk:4194304*5≤k) (hw:w.sd) (hb:b.sd) (hl:b.Objects.length≤40):impl_GateBook_sumsOk k b w=some (sumsOk w b):=by
 have hb':=hb
 obtain ⟨-,-,-,-,-,hle,hpu⟩:=hb
 unfold impl_GateBook_sumsOk sumsOk
 have h5:=fun J:GateBook→List Pair2→Option Bool=>loop_chainS (R:=Option Bool) (x:=b.Ledgers) (p:=led1 w) (f:=mLed w b) (B:=4194304*3) (l:=fun k m i=>iter (ts:=impl_GateBook_sumsOk_L5_ts) (R:=Bool) k (impl_GateBook_sumsOk_L5 J) b w b.Ledgers (b.Ledgers.length:Int) i m) (E:=fun m=>J b m) (O:=some false)
  (fun k m=>by simp only [iter,impl_GateBook_sumsOk_L5,ilt_e,cond_false]<;>rfl)
  (fun k i m hi hbk=>by
   have hgi:=hle.2 _ (mem_i hi)
   simp only [iter,impl_GateBook_sumsOk_L5,share,ilt_n hi,inb_n hi,cond_true,req_t,nth_i hi,teamOf_e (show 4194304≤k by omega) hw.2.2.1,team_gidx,isName_e (show 4194304≤k by omega) hgi.2.1,implUsed_e (team:=b.Ledgers[i].Team) (res:=b.Ledgers[i].Resource) hbk hw hb' hl,Option.bind_some,led1,led0]
   rw [iadd_n hle.1 hi,ilt_not b.Ledgers[i].Free,ilt_not b.Ledgers[i].Most,ilt_not 1000000]
   rcases Nat.eq_zero_or_pos i with rfl | h0
   ·simp only [ilt_00,ahead_0,ledB]
    cases (teamN w.Teams b.Ledgers[0].Team).isSome<;>cases nameOk b.Ledgers[0].Resource<;>cases ile 0 b.Ledgers[0].Free<;>cases ile b.Ledgers[0].Free b.Ledgers[0].Most<;>cases ile b.Ledgers[0].Most 1000000<;>rfl
   ·have hi':i-1 < b.Ledgers.length:=by omega
    simp only [ilt_0 h0,isub_n h0 (show i≤1048576 by have:=hle.1;omega),inb_n hi',cond_true,req_t,nth_i hi',ahead_s h0 hi,ledB,twoLt]
    cases h1:seq b.Ledgers[i-1].Team b.Ledgers[i].Team with
    | true=>
     rw [slt_seq h1]
     cases slt b.Ledgers[i-1].Resource b.Ledgers[i].Resource<;>cases (teamN w.Teams b.Ledgers[i].Team).isSome<;>cases nameOk b.Ledgers[i].Resource<;>cases ile 0 b.Ledgers[i].Free<;>cases ile b.Ledgers[i].Free b.Ledgers[i].Most<;>cases ile b.Ledgers[i].Most 1000000<;>rfl
    | false=>
     cases slt b.Ledgers[i-1].Team b.Ledgers[i].Team<;>cases (teamN w.Teams b.Ledgers[i].Team).isSome<;>cases nameOk b.Ledgers[i].Resource<;>cases ile 0 b.Ledgers[i].Free<;>cases ile b.Ledgers[i].Free b.Ledgers[i].Most<;>cases ile b.Ledgers[i].Most 1000000<;>rfl) k [] (by have:=hle.1;omega)
 have h16:=fun (J:GateBook→List Pair2→Option Bool) (m:List Pair2)=>loop_chainS (R:=Option Bool) (x:=b.Purses) (p:=pur1 b) (f:=mPur) (B:=4194304*2) (l:=fun k m i=>iter (ts:=impl_GateBook_sumsOk_L16_ts) (R:=Bool) k (impl_GateBook_sumsOk_L16 J) b b.Purses (b.Purses.length:Int) i m) (E:=fun m=>J b m) (O:=some false)
  (fun k m=>by simp only [iter,impl_GateBook_sumsOk_L16,ilt_e,cond_false]<;>rfl)
  (fun k i m hi hbk=>by
   have hpi:=hpu.2 _ (mem_i hi)
   simp only [iter,impl_GateBook_sumsOk_L16,share,ilt_n hi,inb_n hi,cond_true,req_t,nth_i hi,ledger_e (show 4194304≤k by omega) hle.1,isName_e (show 4194304≤k by omega) hpi.1,purseBefore_e,Option.bind_some,pur1,pur0]
   rw [iadd_n hpu.1 hi,ilt_not b.Purses[i].Amount,ilt_not 1000000,ilt_not b.Purses[i].Until,ilt_not (iadd .i64 b.Tick 10)]
   rcases Nat.eq_zero_or_pos i with rfl | h0
   ·simp only [ilt_00,ahead_0,purB]
    cases nameOk b.Purses[0].Door<;>cases ilt (ledO b b.Purses[0].Team b.Purses[0].Resource) 0<;>cases ile 1 b.Purses[0].Amount<;>cases ile b.Purses[0].Amount 1000000<;>cases ile b.Tick b.Purses[0].Until<;>cases ile b.Purses[0].Until (iadd .i64 b.Tick 10)<;>rfl
   ·have hi':i-1 < b.Purses.length:=by omega
    simp only [ilt_0 h0,isub_n h0 (show i≤1048576 by have:=hpu.1;omega),inb_n hi',cond_true,req_t,nth_i hi',ahead_s h0 hi,purB]
    cases purP b.Purses[i-1] b.Purses[i]<;>cases nameOk b.Purses[i].Door<;>cases ilt (ledO b b.Purses[i].Team b.Purses[i].Resource) 0<;>cases ile 1 b.Purses[i].Amount<;>cases ile b.Purses[i].Amount 1000000<;>cases ile b.Tick b.Purses[i].Until<;>cases ile b.Purses[i].Until (iadd .i64 b.Tick 10)<;>rfl) k m (by have:=hpu.1;omega)
 have h26:=fun m:List Pair2=>loop_all (R:=Option Bool) (x:=b.Ledgers) (p:=fun g=>ieq (getA (keyL g) m) g.Most) (B:=0) (l:=fun k i=>iter (ts:=impl_GateBook_sumsOk_L26_ts) (R:=Bool) k (impl_GateBook_sumsOk_L26 (some true)) b.Ledgers (b.Ledgers.length:Int) i m) (E:=some true) (O:=some false)
  (fun k=>by simp only [iter,impl_GateBook_sumsOk_L26,ilt_e,cond_false]<;>rfl)
  (fun k i hi _=>by
   simp only [iter,impl_GateBook_sumsOk_L26,ilt_n hi,inb_n hi,cond_true,req_t,nth_i hi,iadd_n hle.1 hi]
   have e:mget (fun p:Pair2=>(seq b.Ledgers[i].Team p.Key.team&&(seq b.Ledgers[i].Resource p.Key.resource))) (fun p:Pair2=>p.Val) (0:Int) m=getA (keyL b.Ledgers[i]) m:=rfl
   rw [e]
   cases ieq (getA (keyL b.Ledgers[i]) m) b.Ledgers[i].Most<;>rfl) k (by have:=hle.1;omega)
 simp only [share,ilt_not]
 cases hl1:ile (b.Ledgers.length:Int) 10 with
 | false=>rfl
 | true=>
  cases hl2:ile (b.Purses.length:Int) 24 with
  | false=>rfl
  | true=>
   refine (h5 _).trans ?_
   cases hc:chain (led1 w) none b.Ledgers with
   | false=>simp only [Bool.false_and,Bool.and_false];rfl
   | true=>
    refine (h16 _ _).trans ?_
    cases hp:chain (pur1 b) none b.Purses with
    | false=>rfl
    | true=>
     refine (h26 _).trans ?_
     have hg:=chain_pur hp
     have hled:chain (fun q g=>led0 w g&&ledB q g) none b.Ledgers=true:=hc
     rw [chain_and,chain_all] at hled
     have hall:=List.all_eq_true.1 (Bool.and_eq_true_iff.1 hled).1
     have hnd:=(chain_led (Bool.and_eq_true_iff.1 hled).2).1
     have hle2:=ile_le hl2
     rw [all_ext (p:=fun g=>ieq (getA (keyL g) (b.Purses.foldl mPur (b.Ledgers.foldl (mLed w b) []))) g.Most) (q:=sumL w b) fun g hgm=>by
      have hu:=usedM_range (w:=w) (team:=g.Team) (res:=g.Resource) hb' hl
      have h0:=hall g hgm
      simp only [led0,Bool.and_eq_true] at h0
      have f1:=ile_le h0.2.2.1
      have f2:=ile_le h0.2.2.2.1
      have f3:=ile_le h0.2.2.2.2
      have e1:=mLed_get (w:=w) (b:=b) b.Ledgers [] hnd g hgm
      rw [iaddn (by omega) (by omega)] at e1
      have e2:=mPur_get (a:=keyL g) b.Purses (b.Ledgers.foldl (mLed w b) []) hg (by omega) (by omega)
      rw [e2,e1]
      unfold sumL outM
      congr 1
      omega]
     cases b.Ledgers.all (sumL w b)<;>rfl
def bookOk (w:GateLaw) (b:GateBook):Bool:=(lawOk w&&((ile 0 b.Now&&ile b.Now 1000000)&&((ile 0 b.Tick&&ile b.Tick 1000000)&&(ile 0 b.Given&&ile b.Given b.Now))))&&(objectsOk w b&&(grantsOk b&&sumsOk w b))
theorem objects40 {w:GateLaw} {b:GateBook} (h:objectsOk w b=true):b.Objects.length≤40:=by
 simp only [objectsOk,Bool.and_eq_true] at h
 have:=ile_le h.1;omega
theorem lawOk_mends {w:GateLaw} (h:lawOk w=true):mendsOk w.Shapes w.Mends=true:=by
 simp only [lawOk,Bool.and_eq_true] at h;exact h.1
theorem specBookOk_e {k:Nat} {w:GateLaw} {b:GateBook} (hk:4194304*12≤k) (hw:w.sd) (hb:b.sd):spec_GateBookOk k w b=some (bookOk w b):=by
 unfold spec_GateBookOk bookOk
 simp only [share,specLawOk_e (show 4194304*6≤k by omega) hw,in_e,Option.bind_some,specGrants_e (show 4194304*3≤k by omega) hb]
 cases hl:lawOk w with
 | false=>rfl
 | true=>
  rw [specObjects_e (show 4194304*10≤k by omega) hw hb (lawOk_mends hl)]
  cases ile 0 b.Now&&ile b.Now 1000000 with
  | false=>rfl
  | true=>
   cases ile 0 b.Tick&&ile b.Tick 1000000 with
   | false=>rfl
   | true=>
    cases ile 0 b.Given&&ile b.Given b.Now with
    | false=>rfl
    | true=>
     cases ho:objectsOk w b with
     | false=>rfl
     | true=>
      rw [specSums_e (show 4194304*5≤k by omega) hw hb (objects40 ho)]
      cases grantsOk b<;>rfl
theorem implBookOk_e {k:Nat} {w:GateLaw} {b:GateBook} (hk:4194304*12≤k) (hw:w.sd) (hb:b.sd):impl_GateBookOk k w b=some (bookOk w b):=by
 unfold impl_GateBookOk bookOk
 simp only [share,implLawOk_e (show 4194304*7≤k by omega) hw,Option.bind_some,implGrants_e (show 4194304*3≤k by omega) hb,ilt_not]
 cases hl:lawOk w with
 | false=>rfl
 | true=>
  rw [implObjects_e hk hw hb (lawOk_mends hl)]
  cases ile 0 b.Now with
  | false=>rfl
  | true=>
   cases ile b.Now 1000000 with
   | false=>rfl
   | true=>
    cases ile 0 b.Tick with
    | false=>rfl
    | true=>
     cases ile b.Tick 1000000 with
     | false=>rfl
     | true=>
      cases ile 0 b.Given with
      | false=>rfl
      | true=>
       cases ile b.Given b.Now with
       | false=>rfl
       | true=>
        cases ho:objectsOk w b with
        | false=>rfl
        | true=>
         rw [implSums_e (show 4194304*5≤k by omega) hw hb (objects40 ho)]
         cases grantsOk b<;>rfl
theorem lawOk_teams {w:GateLaw} (h:lawOk w=true):teamsOk w.Teams=true:=by
 simp only [lawOk,Bool.and_eq_true] at h;exact h.2
theorem bookOk_law {w:GateLaw} {b:GateBook} (h:bookOk w b=true):lawOk w=true:=by
 simp only [bookOk,Bool.and_eq_true] at h;exact h.1.1
theorem grants_rules {b:GateBook}:∀ {l:List GateGrant} {q:Option GateGrant},chain (grant1 b) q l=true→∀ g,g∈l→ruleOk g.Rule=true
 | [],_,_,_,h=>by cases h
 | a::r,q,h,g,hg=>by
  simp only [chain,Bool.and_eq_true] at h
  rcases List.mem_cons.1 hg with e | e
  ·subst e
   have h1:=h.1
   simp only [grant1,Bool.and_eq_true] at h1
   exact h1.2.2.2.2
  ·exact grants_rules h.2 g e
def hasV (r:GateRule) (v:Int):Bool:=r.Verbs.any fun y=>ieq y v
theorem specVerb_e {k:Nat} {r:GateRule} {v:Int} (hk:4194304≤k) (hr:r.sd):spec_l4Verb k r v=some (hasV r v):=by
 unfold spec_l4Verb
 have h:=loop_any (R:=Option Bool) (x:=r.Verbs) (p:=fun y=>ieq y v) (B:=0) (l:=fun k i=>iter (ts:=spec_l4Verb_L2_ts) (R:=Bool) k (spec_l4Verb_L2 (some false)) v r i) (E:=some false) (O:=some true)
  (fun k=>by simp only [iter,spec_l4Verb_L2,ilt_e,cond_false]<;>rfl)
  (fun k i hi _=>by simp only [iter,spec_l4Verb_L2,ilt_n hi,inb_n hi,cond_true,req_t,nth_i hi,iadd_n hr.1.1 hi]<;>rfl) k (by have:=hr.1.1;omega)
 simp only [share]
 refine h.trans ?_
 unfold hasV
 cases r.Verbs.any fun y=>ieq y v<;>rfl
theorem hasV_iff {r:GateRule} {v:Int}:hasV r v=true↔v∈r.Verbs:=by
 simp only [hasV,List.any_eq_true,ieq,beq_iff_eq]
 exact ⟨fun ⟨y,h1,h2⟩=>h2▸h1,fun h=>⟨v,h,rfl⟩⟩
def setStep (s:Int) (v:Int):Int:=bOr .u16 s (bShl .u16 1 (iconv .u64 v))
def bit (s v:Int):Bool:=ieq (bAnd .u16 (bShr .u16 s (iconv .u64 v)) 1) 1
theorem step_bit:∀ s:Fin 64,∀ a:Fin 5,(∃ t:Fin 64,setStep (s.val:Int) ((a.val+1:Nat):Int)=(t.val:Int))∧∀ v:Fin 5,bit (setStep (s.val:Int) ((a.val+1:Nat):Int)) ((v.val+1:Nat):Int)=(bit (s.val:Int) ((v.val+1:Nat):Int)||ieq ((a.val+1:Nat):Int) ((v.val+1:Nat):Int)):=by
 decide +kernel
theorem set_bits:∀ (vs:List Int) (s:Fin 64),(∀ v,v∈vs→1≤v∧v≤5)→∀ v:Int,1≤v→v≤5→bit (vs.foldl setStep (s.val:Int)) v=(bit (s.val:Int) v||vs.any fun y=>ieq y v)
 | [],s,_,v,_,_=>by simp
 | a::r,s,h,v,h1,h2=>by
  obtain ⟨ha1,ha2⟩:=h a (List.mem_cons_self ..)
  obtain ⟨a',rfl⟩:∃ a':Fin 5,a=((a'.val+1:Nat):Int):=⟨⟨(a-1).toNat,by omega⟩,by simp only;omega⟩
  obtain ⟨v',rfl⟩:∃ v':Fin 5,v=((v'.val+1:Nat):Int):=⟨⟨(v-1).toNat,by omega⟩,by simp only;omega⟩
  obtain ⟨⟨t,ht⟩,hb⟩:=step_bit s a'
  rw [List.foldl_cons,ht,set_bits r t (fun y hy=>h y (List.mem_cons_of_mem _ hy)) _ h1 h2,← ht,hb v',List.any_cons,Bool.or_assoc]
theorem bit_0:∀ v:Fin 5,bit 0 ((v.val+1:Nat):Int)=false:=by decide +kernel
theorem verbs_in {rv:List Int}:∀ {o:Option Int},chain verbP o rv=true→∀ v,v∈rv→1≤v∧v≤5:=by
 induction rv with
 | nil=>intro o _ v hv;cases hv
 | cons a r ih=>
  intro o h v hv
  simp only [chain,verbP,Bool.and_eq_true,ile,decide_eq_true_eq] at h
  rcases List.mem_cons.1 hv with e | e
  ·exact e▸h.1.1
  ·exact ih h.2 v e
theorem ruleOk_verbs {r:GateRule} (h:ruleOk r=true):∀ v,v∈r.Verbs→1≤v∧v≤5:=by
 simp only [ruleOk,Bool.and_eq_true] at h
 exact verbs_in h.2.2.2.2.1
theorem iconv_v {v:Int} (h1:1≤v) (h2:v≤5):ile 0 (iconv .u64 v)=true:=by
 obtain ⟨v',rfl⟩:∃ v':Fin 5,v=((v'.val+1:Nat):Int):=⟨⟨(v-1).toNat,by omega⟩,by simp only;omega⟩
 revert v'
 decide +kernel
theorem setOf_e {k:Nat} {vs:List Int} (hk:4194304≤k) (hl:vs.length≤1048576) (hv:∀ v,v∈vs→1≤v∧v≤5):impl_setOf k vs=some (vs.foldl setStep 0):=by
 unfold impl_setOf
 simp only [share]
 refine loop_fold (S:=Int) (x:=vs) (f:=setStep) (B:=0) (l:=fun k s i=>iter (ts:=impl_setOf_L3_ts) (R:=Int) k (impl_setOf_L3 fun v=>some v) s vs (vs.length:Int) i) (J:=fun s=>some s) (fun _ _=>True)
  (fun k s _=>by simp only [iter,impl_setOf_L3,ilt_e,cond_false]<;>rfl)
  (fun k i s hi _ _=>⟨by
   obtain ⟨h1,h2⟩:=hv _ (mem_i hi)
   simp only [iter,impl_setOf_L3,share,ilt_n hi,inb_n hi,cond_true,req_t,nth_i hi,ile_t (show (0:Int)≤vs[i] by omega),ilt_t (show vs[i] < (16:Int) by omega),iconv_v h1 h2]
   rw [iadd_n hl hi];rfl,trivial⟩) k 0 (by omega) trivial
theorem implHas_e {k:Nat} {r:GateRule} {v:Int} (hk:4194304≤k) (hr:r.sd) (ho:ruleOk r=true) (h1:1≤v) (h2:v≤5):((impl_setOf k r.Verbs).bind fun s=>impl_verbSet_has k s v)=some (hasV r v):=by
 rw [setOf_e hk hr.1.1 (ruleOk_verbs ho)]
 unfold impl_verbSet_has
 have hb:=set_bits r.Verbs 0 (ruleOk_verbs ho) v h1 h2
 have h0:bit 0 v=false:=by
  obtain ⟨v',rfl⟩:∃ v':Fin 5,v=((v'.val+1:Nat):Int):=⟨⟨(v-1).toNat,by omega⟩,by simp only;omega⟩
  exact bit_0 v'
 simp only [Option.bind_some,ile_t (show (0:Int)≤v by omega),ilt_t (show v < (16:Int) by omega),iconv_v h1 h2,cond_true,req_t]
 have hb':bit (r.Verbs.foldl setStep 0) v=hasV r v:=by
  have:bit (r.Verbs.foldl setStep 0) v=(bit 0 v||r.Verbs.any fun y=>ieq y v):=hb
  rw [this,h0,Bool.false_or];rfl
 rw [← hb'];rfl
def begins (x p:List UInt8):Bool:=ile (p.length:Int) (x.length:Int)&&seq (subl x 0 (p.length:Int)) p
theorem beg_e (x p:List UInt8):cond (ile (p.length:Int) (x.length:Int)) (req (subB 0 (p.length:Int) x.length) (some (seq (subl x 0 (p.length:Int)) p))) (some false)=some (begins x p):=by
 unfold begins
 cases h:ile (p.length:Int) (x.length:Int) with
 | false=>rfl
 | true=>
  simp only [ile,decide_eq_true_eq] at h
  have hs:subB 0 (p.length:Int) x.length=true:=by simp [subB];omega
  rw [hs];rfl
theorem specBegins_e (k:Nat) (x p:List UInt8):spec_l4Begins k x p=some (begins x p):=beg_e x p
theorem implBegins_e (k:Nat) (x p:List UInt8):strings_HasPrefix k x p=some (begins x p):=by
 show (stringslite_HasPrefix k x p).bind (fun v=>some v)=_
 have:stringslite_HasPrefix k x p=some (begins x p):=beg_e x p
 rw [this];rfl
theorem step_bit16:∀ s:Fin 64,∀ a:Fin 5,∀ v:Fin 16,bit (setStep (s.val:Int) ((a.val+1:Nat):Int)) ((v.val:Nat):Int)=(bit (s.val:Int) ((v.val:Nat):Int)||ieq ((a.val+1:Nat):Int) ((v.val:Nat):Int)):=by
 decide +kernel
theorem set_bits16:∀ (vs:List Int) (s:Fin 64),(∀ v,v∈vs→1≤v∧v≤5)→∀ v:Fin 16,bit (vs.foldl setStep (s.val:Int)) ((v.val:Nat):Int)=(bit (s.val:Int) ((v.val:Nat):Int)||vs.any fun y=>ieq y ((v.val:Nat):Int))
 | [],s,_,v=>by simp
 | a::r,s,h,v=>by
  obtain ⟨ha1,ha2⟩:=h a (List.mem_cons_self ..)
  obtain ⟨a',rfl⟩:∃ a':Fin 5,a=((a'.val+1:Nat):Int):=⟨⟨(a-1).toNat,by omega⟩,by simp only;omega⟩
  obtain ⟨⟨t,ht⟩,_⟩:=step_bit s a'
  rw [List.foldl_cons,ht,set_bits16 r t (fun y hy=>h y (List.mem_cons_of_mem _ hy)) v,← ht,step_bit16 s a' v,List.any_cons,Bool.or_assoc]
theorem bit_016:∀ v:Fin 16,bit 0 ((v.val:Nat):Int)=false:=by decide +kernel
theorem iconv_16:∀ v:Fin 16,ile 0 (iconv .u64 ((v.val:Nat):Int))=true:=by decide +kernel
theorem implHasAny_e {k:Nat} {r:GateRule} {v:Int} (hk:4194304≤k) (hr:r.sd) (ho:ruleOk r=true):((impl_setOf k r.Verbs).bind fun s=>impl_verbSet_has k s v)=some (hasV r v):=by
 rw [setOf_e hk hr.1.1 (ruleOk_verbs ho)]
 unfold impl_verbSet_has
 simp only [Option.bind_some]
 have out:¬ (1≤v∧v≤5)→hasV r v=false:=fun h=>by
  refine Bool.eq_false_iff.2 fun h2=>h (ruleOk_verbs ho v (hasV_iff.1 h2))
 by_cases h0:0≤v
 ·by_cases h1:v < 16
  ·obtain ⟨v',rfl⟩:∃ v':Fin 16,v=((v'.val:Nat):Int):=⟨⟨v.toNat,by omega⟩,by simp only;omega⟩
   rw [ile_t h0,ilt_t h1,iconv_16 v']
   have hb:=set_bits16 r.Verbs 0 (ruleOk_verbs ho) v'
   have hb':bit (r.Verbs.foldl setStep 0) ((v'.val:Nat):Int)=hasV r ((v'.val:Nat):Int):=by
    have h2:bit (r.Verbs.foldl setStep 0) ((v'.val:Nat):Int)=(bit 0 ((v'.val:Nat):Int)||r.Verbs.any fun y=>ieq y ((v'.val:Nat):Int)):=hb
    rw [h2,bit_016,Bool.false_or];rfl
   rw [← hb'];rfl
  ·rw [ile_t h0,ilt_f h1,out (by omega)];rfl
 ·rw [ile_f h0,out (by omega)];rfl
def reachN (x:List GateTeam) (r:GateRule) (a:GateAct):Bool:=hasV r a.Verb&&((seq r.Kind []||seq r.Kind a.Kind)&&((seq r.Team []||underN x 4 a.Team r.Team)&&begins a.Name r.Prefix))
def allowsM (x:List GateTeam) (r:GateRule) (a:GateAct):Bool:=teamsOk x&&(ruleOk r&&reachN x r a)
theorem implAllows_e {k:Nat} {x:List GateTeam} {r:GateRule} {a:GateAct} (hk:4194304*3≤k) (hx:sdS GateTeam.sd x) (hr:r.sd):impl_GateAllows k x r a=some (allowsM x r a):=by
 unfold impl_GateAllows allowsM
 simp only [share,implTeamsOk_e hk hx,implRuleOk_e (show 4194304*2≤k by omega) hr,Option.bind_some]
 cases teamsOk x with
 | false=>rfl
 | true=>
  cases ho:ruleOk r with
  | false=>rfl
  | true=>
   have hh:=implHasAny_e (k:=k) (v:=a.Verb) (by omega) hr ho
   have hb:∀ f:Bool→Option Bool,((impl_setOf k r.Verbs).bind fun s=>(impl_verbSet_has k s a.Verb).bind f)=f (hasV r a.Verb):=fun f=>by
    have:((impl_setOf k r.Verbs).bind fun s=>(impl_verbSet_has k s a.Verb).bind f)=((impl_setOf k r.Verbs).bind fun s=>impl_verbSet_has k s a.Verb).bind f:=by
     cases impl_setOf k r.Verbs<;>rfl
    rw [this,hh];rfl
   simp only [Bool.not_true,cond_false]
   unfold impl_GateRule_reaches reachN
   rw [hb]
   simp only [implBegins_e,implUnder_e (show 4194304*2≤k by omega) hx.1,Option.bind_some]
   cases hasV r a.Verb<;>cases seq r.Kind []<;>cases seq r.Kind a.Kind<;>cases seq r.Team []<;>cases underN x 4 a.Team r.Team<;>rfl
theorem specReach_e {k:Nat} {x:List GateTeam} {r:GateRule} {a:GateAct} (hk:4194304*2≤k) (hx:x.length≤1048576) (hr:r.sd):spec_l4Allows k x r a=some (reachN x r a):=by
 unfold spec_l4Allows reachN
 simp only [specVerb_e (show 4194304≤k by omega) hr,specBegins_e,specUnder_e hk hx,Option.bind_some]
 cases hasV r a.Verb<;>cases seq r.Kind []<;>cases seq r.Kind a.Kind<;>cases seq r.Team []<;>cases underN x 4 a.Team r.Team<;>rfl
def ruleTo (who:Nm) (acc:List GateRule) (g:GateGrant):List GateRule:=cond (seq g.To who) (acc++[g.Rule]) acc
def rulesM (b:GateBook) (who:Nm):List GateRule:=b.Grants.foldl (ruleTo who) []
theorem ruleTo_fold (who:Nm):∀ (l:List GateGrant) (acc:List GateRule) (r:GateRule),r∈l.foldl (ruleTo who) acc→r∈acc∨∃ g,g∈l∧g.Rule=r
 | [],_,_,h=>.inl h
 | g::l,acc,r,h=>by
  rw [List.foldl_cons] at h
  rcases ruleTo_fold who l _ r h with h1 | ⟨g',h1,h2⟩
  ·unfold ruleTo at h1
   cases e:seq g.To who with
   | false=>rw [e] at h1;exact .inl h1
   | true=>
    rw [e] at h1
    simp only [cond_true,List.mem_append,List.mem_singleton] at h1
    rcases h1 with h1 | h1
    ·exact .inl h1
    ·exact .inr ⟨g,by simp,h1.symm⟩
  ·exact .inr ⟨g',by simp [h1],h2⟩
theorem ruleTo_len (who:Nm):∀ (l:List GateGrant) (acc:List GateRule),(l.foldl (ruleTo who) acc).length≤acc.length+l.length
 | [],_=>by simp
 | g::l,acc=>by
  rw [List.foldl_cons]
  refine Nat.le_trans (ruleTo_len who l _) ?_
  unfold ruleTo
  cases seq g.To who<;>simp<;>omega
theorem rulesM_sd {b:GateBook} (hb:b.sd) (who:Nm):sdS GateRule.sd (rulesM b who):=by
 obtain ⟨-,-,-,-,hg,-⟩:=hb
 refine ⟨Nat.le_trans (ruleTo_len who b.Grants []) (by have:=hg.1;simpa using this),fun r hr=>?_⟩
 rcases ruleTo_fold who b.Grants [] r hr with h | ⟨g,h1,h2⟩
 ·cases h
 ·exact h2▸(hg.2 g h1).2.2.2
theorem specRules_e {k:Nat} {b:GateBook} {who:Nm} (hk:4194304≤k) (hb:b.sd):spec_l8Rules k b who=some (rulesM b who):=by
 obtain ⟨-,-,-,-,hg,-⟩:=hb
 have hgl:=hg.1
 unfold spec_l8Rules rulesM
 simp only [share]
 exact loop_fold (S:=List GateRule) (x:=b.Grants) (f:=ruleTo who) (B:=0) (l:=fun k acc i=>iter (ts:=spec_l8Rules_L3_ts) (R:=List GateRule) k (spec_l8Rules_L3 fun v=>some v) who b i acc) (J:=fun acc=>some acc) (fun i acc=>acc.length≤i)
  (fun k acc _=>by simp only [iter,spec_l8Rules_L3,ilt_e,cond_false]<;>rfl)
  (fun k i acc hi _ hI=>by
   simp only [iter,spec_l8Rules_L3,share,ilt_n hi,inb_n hi,cond_true,req_t,nth_i hi,iadd_n hg.1 hi,ruleTo]
   rw [appB_t (by simp;omega) (by omega)]
   cases seq b.Grants[i].To who with
   | false=>exact ⟨rfl,by simp only [cond_false];omega⟩
   | true=>exact ⟨rfl,by simp only [cond_true,List.length_append,List.length_singleton];omega⟩) k [] (by omega) (by simp)
theorem implRules_e {k:Nat} {b:GateBook} {who:Nm} (hk:4194304≤k) (hb:b.sd):impl_GateBook_rulesTo k b who=some (rulesM b who):=by
 obtain ⟨-,-,-,-,hg,-⟩:=hb
 have hgl:=hg.1
 unfold impl_GateBook_rulesTo rulesM
 simp only [share]
 exact loop_fold (S:=List GateRule) (x:=b.Grants) (f:=ruleTo who) (B:=0) (l:=fun k acc i=>iter (ts:=impl_GateBook_rulesTo_L3_ts) (R:=List GateRule) k (impl_GateBook_rulesTo_L3 fun v=>some v) who b.Grants (b.Grants.length:Int) i acc) (J:=fun acc=>some acc) (fun i acc=>acc.length≤i)
  (fun k acc _=>by simp only [iter,impl_GateBook_rulesTo_L3,ilt_e,cond_false]<;>rfl)
  (fun k i acc hi _ hI=>by
   simp only [iter,impl_GateBook_rulesTo_L3,share,ilt_n hi,inb_n hi,cond_true,req_t,nth_i hi,iadd_n hg.1 hi,ruleTo]
   rw [appB_t (by simp;omega) (by omega)]
   cases seq b.Grants[i].To who with
   | false=>exact ⟨rfl,by simp only [cond_false];omega⟩
   | true=>exact ⟨rfl,by simp only [cond_true,List.length_append,List.length_singleton];omega⟩) k [] (by omega) (by simp)
theorem rulesM_ok {w:GateLaw} {b:GateBook} (h:bookOk w b=true) (who:Nm):∀ r,r∈rulesM b who→ruleOk r=true:=fun r hr=>by
 simp only [bookOk,grantsOk,Bool.and_eq_true] at h
 rcases ruleTo_fold who b.Grants [] r hr with h1 | ⟨g,h1,h2⟩
 ·cases h1
 ·exact h2▸grants_rules h.2.2.1.2 g h1
def mayM (w:GateLaw) (b:GateBook) (who:Nm) (a:GateAct):Bool:=(rulesM b who).any fun r=>reachN w.Teams r a
theorem specMay_e {k:Nat} {w:GateLaw} {b:GateBook} {who:Nm} {a:GateAct} (hk:4194304*4≤k) (hw:w.sd) (hb:b.sd):spec_l8May k w b who a=some (mayM w b who a):=by
 unfold spec_l8May mayM
 have hr:=rulesM_sd hb who
 rw [specRules_e (by omega) hb]
 have h:=loop_any (R:=Option Bool) (x:=rulesM b who) (p:=fun r=>reachN w.Teams r a) (B:=4194304*2) (l:=fun k i=>iter (ts:=spec_l8May_L3_ts) (R:=Bool) k (spec_l8May_L3 (some false)) w a (rulesM b who) i) (E:=some false) (O:=some true)
  (fun k=>by simp only [iter,spec_l8May_L3,ilt_e,cond_false]<;>rfl)
  (fun k i hi hbk=>by
   simp only [iter,spec_l8May_L3,ilt_n hi,inb_n hi,cond_true,req_t,nth_i hi,specReach_e hbk hw.2.2.1 (hr.2 _ (mem_i hi)),Option.bind_some,iadd_n hr.1 hi]<;>rfl) k (by have:=hr.1;omega)
 simp only [Option.bind_some,share]
 refine h.trans ?_
 cases (rulesM b who).any fun r=>reachN w.Teams r a<;>rfl
theorem implMay_e {k:Nat} {w:GateLaw} {b:GateBook} {who:Nm} {a:GateAct} (hk:4194304*5≤k) (hw:w.sd) (hb:b.sd) (hok:bookOk w b=true):impl_may k w b who a=some (mayM w b who a):=by
 unfold impl_may mayM
 have hr:=rulesM_sd hb who
 have ho:=rulesM_ok hok who
 have ht:=lawOk_teams (bookOk_law hok)
 rw [implRules_e (by omega) hb]
 have h:=loop_any (R:=Option Bool) (x:=rulesM b who) (p:=fun r=>reachN w.Teams r a) (B:=4194304*3) (l:=fun k i=>iter (ts:=impl_may_L2_ts) (R:=Bool) k (impl_may_L2 (some false)) w a (rulesM b who) ((rulesM b who).length:Int) i) (E:=some false) (O:=some true)
  (fun k=>by simp only [iter,impl_may_L2,ilt_e,cond_false]<;>rfl)
  (fun k i hi hbk=>by
   simp only [iter,impl_may_L2,ilt_n hi,inb_n hi,cond_true,req_t,nth_i hi,implAllows_e hbk hw.2.2 (hr.2 _ (mem_i hi)),allowsM,ht,ho _ (mem_i hi),Bool.true_and,Option.bind_some,iadd_n hr.1 hi]<;>rfl) k (by have:=hr.1;omega)
 simp only [Option.bind_some,share]
 refine h.trans ?_
 cases (rulesM b who).any fun r=>reachN w.Teams r a<;>rfl
end Go.Proofs.YtenfhlfofhjcoaaGreatDoor.Pu
