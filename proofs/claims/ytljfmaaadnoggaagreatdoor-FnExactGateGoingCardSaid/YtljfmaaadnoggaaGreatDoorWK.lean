/- Keys of maps: numbers, texts, structs of these. No condition. -/
import Derived.Test.YtljfmaaadnoggaaGreatDoorVQ
import Derived.Laws.StructEq
namespace Go.Proofs.YtljfmaaadnoggaaGreatDoor.cX
open Go Go.RowKit
variable {w w' xW:World} {F F' Cq O O' wx:Nat→Prop} {μ bC kZ:Nat→Nat} {K K' Gg:Nat→Prop} {ft b8:Nat→Nat→Prop} {P:Program} {R:Type}
def eq1:AV→AV→Option Bool
 | .int k a,.int k' b=>if k=k' then some (bL a b) else none
 | .str a,.str b=>some (seq a b)
 | _,_=>none
def eqL:List AV→List AV→Option Bool
 | [],[]=>some true
 | a::r,b::s=>match eq1 a b,eqL r s with
  | some p,some q=>some (p&&q)
  | _,_=>none
 | _,_=>none
def FN:AV→AV→Option Bool
 | .agg xs,.agg ys=>eqL xs ys
 | a,b=>eq1 a b
def GK:TypeDesc→AV→Bool
 | .int _,.int _ _=>true
 | .string,.str _=>true
 | _,_=>false
def LC (P:Program):List Field→Nat→List AV→Bool
 | [],_,[]=>true
 | f::fs,i,a::r=>(f.name != "_"&&(Nat.beq f.offset i&&(Nat.beq (P.cellsOf f.type) 1&&(match P.underlying f.type with
  | some d=>GK d a
  | none=>false))))&&LC P fs (i+1) r
 | _,_,_=>false
def CI (P:Program) (t:TypeId):AV→Bool
 | .agg as=>match P.underlying t with
  | some (.struct fs)=>!P.stoodInHeld t&&LC P fs.toList 0 as
  | _=>false
 | a=>match P.underlying t with
  | some d=>GK d a
  | none=>false
theorem bytes_beq (a b:List UInt8):((⟨⟨a⟩⟩:ByteArray)==⟨⟨b⟩⟩)=seq a b:=by
 unfold seq
 by_cases h:a=b
 ·subst h
  have:((⟨⟨a⟩⟩:ByteArray)==⟨⟨a⟩⟩)=true:=by
   have h1:((⟨⟨a⟩⟩:ByteArray)==⟨⟨a⟩⟩)=((⟨a⟩:Array UInt8)==⟨a⟩):=rfl
   rw [h1];simp
  rw [this];simp
 ·have:((⟨⟨a⟩⟩:ByteArray)==⟨⟨b⟩⟩)=((⟨a⟩:Array UInt8)==⟨b⟩):=rfl
  rw [this];simp
theorem ZQ {d:TypeDesc} {ka kb:AV} {kv ke:Value} {b:Bool} {t:TypeId} {n:Nat} (ht:P.underlying t=some d) (hd:GK d ka=true) (h:eq1 ka kb=some b) (ha:VR w F μ K ka kv) (hb:VR w F bC K' kb ke):
  (Op.equalIn (n+1) t kv ke).run P w=.ok b w:=by
 cases ka with
 | int k a=>
  cases kb with
  | int k' c=>
   simp only [eq1] at h
   split at h
   ·rename_i e
    subst e
    cases h
    rw [ha.dd,hb.dd]
    cases d<;>simp [GK] at hd
    rw [run_equalIn_int w n t _ _ _ _ ht]
    rfl
   ·cases h
  | _=>simp [eq1] at h
 | str a=>
  cases kb with
  | str c=>
   simp only [eq1] at h
   cases h
   rw [ha.jD,hb.jD]
   cases d<;>simp [GK] at hd
   rw [run_equalIn_string w n t _ _ ht,← beq_toListBytes,bytes_beq]
  | _=>simp [eq1] at h
 | _=>simp [eq1] at h
theorem adh {t:TypeId} {d:TypeDesc} (h:P.underlying t=some d):∃ i,P.info? t=some i:=by
 unfold Program.underlying at h
 cases e:P.info? t with
 | some i=>exact ⟨i,rfl⟩
 | none=>simp [e] at h
theorem WO {f:Field} {fs:List Field} {i:Nat} {a:AV} {r:List AV} (h:LC P (f::fs) i (a::r)=true):
  f.name≠ "_"∧f.offset=i∧P.cellsOf f.type=1∧(∃ d,P.underlying f.type=some d∧GK d a=true)∧LC P fs (i+1) r=true:=by
 simp only [LC,Bool.and_eq_true,bne_iff_ne,ne_eq] at h
 obtain ⟨⟨h1,h2,h3,h4⟩,h5⟩:=h
 refine ⟨h1,Nat.eq_of_beq_eq_true h2,Nat.eq_of_beq_eq_true h3,?_,h5⟩
 split at h4
 ·rename_i d hd
  exact ⟨d,hd,h4⟩
 ·cases h4
theorem adi {d:TypeDesc} {a:AV} (h:GK d a=true):KY d=false:=by
 cases d<;>cases a<;>simp [GK] at h<;>rfl
theorem M5 {f:Field} {i:Nat} {d:TypeDesc} {a:AV} {ka:List AV} {r:List AV} {vs:List Value} (hd:P.underlying f.type=some d) (hk:GK d a=true) (hi:ka.drop i=a::r) (hv:iR w F μ K ka vs):
  ∃ v,(part f.type ⟨vs⟩ i).run P w=.ok v w∧VR w F μ K a v:=by
 obtain ⟨inf,ajR⟩:=adh hd
 have dQ:i < ka.length:=by
  rcases Nat.lt_or_ge i ka.length with h | h
  ·exact h
  ·rw [List.drop_eq_nil_of_le h] at hi;cases hi
 have ha:ka.getD i .top=a:=by
  have:ka[i]?=some a:=by
   have:=congrArg (·[0]?) hi
   simpa using this
  simp [List.getD,this]
 have hp:Gk P f.type ka i=some a:=by
  unfold Gk
  rw [hd,ajR]
  simp only [adi hk,Bool.false_eq_true,if_false]
  rw [if_pos (by simp only [Nat.blt];exact Nat.ble_eq_true_of_le dQ),ha]
 exact PI hp hv
theorem ZR {n:Nat} {ka kb:List AV} {vs us:List Value} (hv:iR w F μ K ka vs) (hu:iR w F bC K' kb us):∀ (fs:List Field) (i:Nat) (as bs:List AV) (b:Bool),LC P fs i as=true→ka.drop i=as→kb.drop i=bs→eqL as bs=some b→
  (Op.eqFields (n+1) ⟨vs⟩ ⟨us⟩ fs).run P w=.ok b w
 | [],i,as,bs,b,h,_,_,he=>by
  cases as with
  | nil=>
   cases bs with
   | nil=>cases he;rfl
   | cons=>cases he
  | cons=>cases h
 | f::fs,i,as,bs,b,h,ha,hb,he=>by
  cases as with
  | nil=>cases h
  | cons a r=>
   cases bs with
   | nil=>cases he
   | cons c s=>
    obtain ⟨h1,h2,h3,⟨d,h4,h5⟩,h6⟩:=WO h
    subst h2
    simp only [eqL] at he
    split at he
    ·rename_i p q e1 e2
     cases he
     obtain ⟨v,k1,k2⟩:=M5 h4 h5 ha hv
     have h5':GK d c=true:=by
      cases a<;>cases c<;>simp [eq1] at e1<;>cases d<;>simp [GK] at h5 ⊢
     obtain ⟨u,k3,k4⟩:=M5 h4 h5' hb hu
     have k5:=ZQ (n:=n) (w:=w) h4 h5 e1 k2 k4
     have ih:=ZR (n:=n) hv hu fs (f.offset+1) r s q h6 (by rw [← List.drop_drop,ha];rfl) (by rw [← List.drop_drop,hb];rfl) e2
     simp only [Op.eqFields,if_pos h1,Sem.run_bind,k1,k3,k5,Result.andThen_ok]
     cases p with
     | true=>simpa using ih
     | false=>simp
    ·cases he
theorem SJ {t:TypeId} {ka kb:AV} {kv ke:Value} {b:Bool} (hd:CI P t ka=true) (h:FN ka kb=some b) (ha:VR w F μ K ka kv) (hb:VR w F bC K' kb ke):(Op.equal t kv ke).run P w=.ok b w:=by
 unfold Op.equal Op.maxDepth
 cases ka with
 | agg xs=>
  cases kb with
  | agg ys=>
   obtain ⟨vs,rfl,hv⟩:=ha.fK
   obtain ⟨us,rfl,hu⟩:=hb.fK
   simp only [CI] at hd
   split at hd
   ·rename_i fs hfs
    simp only [Bool.and_eq_true,Bool.not_eq_true'] at hd
    have hf:P.fieldsOf t=fs:=by simp [Program.fieldsOf,hfs]
    rw [run_equalIn_struct w 9999 t _ _ (by rw [hf];exact hfs) hd.1,hf]
    exact ZR (n:=9998) hv hu fs.toList 0 xs ys b hd.2 rfl rfl h
   ·cases hd
  | _=>simp [FN,eq1] at h
 | _=>
  simp only [CI] at hd
  split at hd
  ·rename_i d hdt
   exact ZQ (n:=9999) hdt hd (by cases kb<;>first | exact h | (simp [FN,eq1] at h ⊢)) ha hb
  ·cases hd
def la (ka:AV):List (AV×AV)→Nat→Option (Option Nat)
 | [],_=>some none
 | e::r,i=>match FN ka e.1 with
  | some true=>some (some i)
  | some false=>la ka r (i+1)
  | none=>none
theorem aiF {d:TypeDesc} {ka kb:AV} {kv ke:Value} {b:Bool} (hd:GK d ka=true) (h:eq1 ka kb=some b) (ha:VR w F μ K ka kv) (hb:VR w F bC K' kb ke):Instr.sameNow d kv ke=some b:=by
 cases ka with
 | int k a=>
  cases kb with
  | int k' c=>
   simp only [eq1] at h
   split at h
   ·rename_i e
    subst e
    cases h
    rw [ha.dd,hb.dd]
    cases d<;>simp [GK] at hd
    simp [Instr.sameNow,bL]
   ·cases h
  | _=>simp [eq1] at h
 | str a=>
  cases kb with
  | str c=>
   simp only [eq1] at h
   cases h
   rw [ha.jD,hb.jD]
   cases d<;>simp [GK] at hd
   simp only [Instr.sameNow,bytes_beq]
  | _=>simp [eq1] at h
 | _=>simp [eq1] at h
theorem QJ {d:TypeDesc} {t:TypeId} {ka kb:AV} {kv ke:Value} {b:Bool} (ht:P.underlying t=some d) (hd:CI P t ka=true) (h:FN ka kb=some b) (ha:VR w F μ K ka kv) (hb:VR w F bC K' kb ke):Instr.sameNow d kv ke=some b∨Instr.sameNow d kv ke=none:=by
 cases ka with
 | agg xs=>
  obtain ⟨vs,rfl,hv⟩:=ha.fK
  exact .inr (by cases d<;>rfl)
 | _=>
  simp only [CI,ht] at hd
  exact .inl (aiF hd (by cases kb<;>first | exact h | (simp [FN,eq1] at h ⊢)) ha hb)
theorem QK {d:TypeDesc} {t:TypeId} {ka:AV} {kv:Value} (ht:P.underlying t=some d) (hd:CI P t ka=true) (ha:VR w F μ K ka kv):∀ {es:List MapEntry} {l:List (AV×AV)} {i:Nat} {r:Option Nat},es.length=l.length→
  (∀ j,j < l.length→VR w F bC Ei (l.getD j (.top,.top)).1 (es.getD j default).key)→la ka l i=some r→
  ∃ R,(Instr.findAsking t kv es i).run P w=.ok R w∧(Instr.findNow d kv es i=some R∨Instr.findNow d kv es i=none)∧(match r with
   | none=>R=none
   | some j=>i≤j∧j-i < es.length∧R=some (j,(es.getD (j-i) default).val)∧FN ka (l.getD (j-i) (.top,.top)).1=some true)
 | [],[],i,r,_,_,h=>by
  simp only [la] at h
  cases h
  exact ⟨none,rfl,.inl rfl,rfl⟩
 | [],_::_,i,r,hl,_,_=>by cases hl
 | _::_,[],i,r,hl,_,_=>by cases hl
 | e::es,p::l,i,r,hl,hk,h=>by
  simp only [la] at h
  have h0:=hk 0 (by simp)
  simp only [List.getD_cons_zero] at h0
  split at h
  ·rename_i he
   cases h
   have k1:=SJ hd he ha h0
   refine ⟨some (i,e.val),by simp [Instr.findAsking,k1],?_,Nat.le_refl _,by simp,by simp,by simpa using he⟩
   rcases QJ ht hd he ha h0 with k2 | k2
   ·exact .inl (by simp [Instr.findNow,k2])
   ·exact .inr (by simp [Instr.findNow,k2])
  ·rename_i he
   have k1:=SJ hd he ha h0
   obtain ⟨R,r1,r2,r3⟩:=QK ht hd ha (es:=es) (l:=l) (i:=i+1) (r:=r) (by simpa using hl) (fun j hj=>by simpa using hk (j+1) (by simpa using hj)) h
   refine ⟨R,by simp [Instr.findAsking,k1];exact r1,?_,?_⟩
   ·rcases QJ ht hd he ha h0 with k2 | k2
    ·simp only [Instr.findNow,k2];exact r2
    ·exact .inr (by simp [Instr.findNow,k2])
   ·cases r with
    | none=>exact r3
    | some j=>
     obtain ⟨h1,h2,h3,h4⟩:=r3
     have e1:j-i=(j-(i+1))+1:=by omega
     refine ⟨by omega,by simp;omega,?_,?_⟩
     ·rw [h3,e1];simp
     ·rw [e1];simpa using h4
  ·cases h
theorem DK {d:TypeDesc} {t:TypeId} {ka:AV} {kv:Value} {es:List MapEntry} {l:List (AV×AV)} {r:Option Nat} (ht:P.underlying t=some d) (hd:CI P t ka=true) (ha:VR w F μ K ka kv) (hl:es.length=l.length)
  (hk:∀ j,j < l.length→VR w F bC Ei (l.getD j (.top,.top)).1 (es.getD j default).key) (h:la ka l 0=some r):
  match r with
  | none=>(Instr.findKey t kv es).run P w=.ok none w
  | some j=>j < es.length∧(Instr.findKey t kv es).run P w=.ok (some (j,(es.getD j default).val)) w∧FN ka (l.getD j (.top,.top)).1=some true:=by
 obtain ⟨R,r1,r2,r3⟩:=QK ht hd ha hl hk h
 have run:(Instr.findKey t kv es).run P w=.ok R w:=by
  rcases r2 with r2 | r2
  ·simp [Instr.findKey,ct ht,r2]
  ·simp [Instr.findKey,ct ht,r2,r1]
 cases r with
 | none=>rw [run,show R=none from r3]
 | some j=>
  obtain ⟨_,h2,h3,h4⟩:=r3
  rw [Nat.sub_zero] at h2 h3 h4
  exact ⟨h2,by rw [run,h3],h4⟩
theorem adj (n:Nat) {d:TypeDesc} {ka:AV} {kv:Value} {t:TypeId} {e:Bool} (ht:P.underlying t=some d) (hd:GK d ka=true) (ha:VR w F μ K ka kv):(Instr.checkKey e (n+1) t kv).run P w=.ok () w:=by
 cases d<;>cases ka<;>simp [GK] at hd<;>first
  | (rw [ha.dd];simp [Instr.checkKey,ct ht])
  | (rw [ha.jD];simp [Instr.checkKey,ct ht])
theorem adk {n:Nat} {e:Bool} {ka:List AV} {vs:List Value} (hv:iR w F μ K ka vs):∀ (fs:List Field) (i:Nat) (as:List AV),LC P fs i as=true→ka.drop i=as→
  (forIn (m:=Sem) fs PUnit.unit fun f _=>do
   if f.name≠ "_" then do
    Instr.checkKey e (n+1) f.type (← part f.type ⟨vs⟩ f.offset)
    pure (ForInStep.yield PUnit.unit)
   else pure (ForInStep.yield PUnit.unit)).run P w=.ok PUnit.unit w
 | [],_,_,_,_=>rfl
 | f::fs,i,as,h,ha=>by
  cases as with
  | nil=>cases h
  | cons a r=>
   obtain ⟨h1,h2,h3,⟨d,h4,h5⟩,h6⟩:=WO h
   subst h2
   obtain ⟨v,k1,k2⟩:=M5 h4 h5 ha hv
   have k3:=adj n (e:=e) h4 h5 k2
   have ih:=adk (n:=n) (e:=e) hv fs (f.offset+1) r h6 (by rw [← List.drop_drop,ha];rfl)
   simp only [List.forIn_cons,if_pos h1,Sem.run_bind,k1,k3,Result.andThen_ok,Sem.run_pure]
   exact ih
theorem Hf {ka:AV} {kv:Value} {t:TypeId} {e:Bool} (hd:CI P t ka=true) (ha:VR w F μ K ka kv):(Instr.checkKey e 10000 t kv).run P w=.ok () w:=by
 cases ka with
 | agg xs=>
  obtain ⟨vs,rfl,hv⟩:=ha.fK
  simp only [CI] at hd
  split at hd
  ·rename_i fs hfs
   simp only [Bool.and_eq_true] at hd
   have:=adk (n:=9998) (e:=e) hv fs.toList 0 xs hd.2 rfl
   rw [Instr.checkKey]
   simp only [Sem.run_bind,ct hfs,Result.andThen_ok]
   rw [← Array.forIn_toList]
   exact (congrArg (fun q=>q.andThen fun _ w'=>Sem.run P (pure ()) w') this).trans rfl
  ·cases hd
 | _=>
  simp only [CI] at hd
  split at hd
  ·rename_i d hdt
   exact adj 9999 hdt hd ha
  ·cases hd
theorem afk {n:Nat} {ka kb:AV} {kv ke:Value} (h:eq1 ka kb=some true) (ha:VR w F μ K ka kv) (hb:VR w F bC K' kb ke):Instr.sameBits n ke kv=true:=by
 cases ka with
 | int k a=>
  cases kb with
  | int k' c=>
   simp only [eq1] at h
   split at h
   ·rename_i e
    subst e
    rw [ha.dd,hb.dd]
    have:a=c:=by simpa [bL] using h
    cases n<;>simp [Instr.sameBits,this]
   ·cases h
  | _=>simp [eq1] at h
 | str a=>
  cases kb with
  | str c=>
   simp only [eq1,Option.some.injEq] at h
   have e:a=c:=by simpa [seq] using h
   rw [ha.jD,hb.jD]
   cases n<;>(simp only [Instr.sameBits,bytes_beq,seq,e];simp)
  | _=>simp [eq1] at h
 | _=>simp [eq1] at h
theorem afl {n:Nat}:∀ {as bs:List AV} {vs us:List Value},eqL as bs=some true→iR w F μ K as vs→iR w F bC K' bs us→us.length=vs.length∧(us.zip vs).all (fun p=>Instr.sameBits n p.1 p.2)=true
 | [],[],vs,us,_,hv,hu=>by rw [hv.iH,hu.iH];exact ⟨rfl,rfl⟩
 | [],_::_,_,_,h,_,_=>by cases h
 | _::_,[],_,_,h,_,_=>by cases h
 | a::r,b::s,vs,us,h,hv,hu=>by
  obtain ⟨v,vr,rfl,h1,h2⟩:=hv.cons_inv
  obtain ⟨u,ur,rfl,h3,h4⟩:=hu.cons_inv
  simp only [eqL] at h
  split at h
  ·rename_i p q e1 e2
   simp only [Option.some.injEq,Bool.and_eq_true] at h
   obtain ⟨rfl,rfl⟩:=h
   obtain ⟨k1,k2⟩:=afl (n:=n) e2 h2 h4
   exact ⟨by simp [k1],by simp only [List.zip_cons_cons,List.all_cons,Bool.and_eq_true];exact ⟨afk e1 h1 h3,k2⟩⟩
  ·cases h
theorem WN {ka kb:AV} {kv ke:Value} (h:FN ka kb=some true) (ha:VR w F μ K ka kv) (hb:VR w F bC K' kb ke):Instr.sameBits 10000 ke kv=true:=by
 cases ka with
 | agg xs=>
  cases kb with
  | agg ys=>
   obtain ⟨vs,rfl,hv⟩:=ha.fK
   obtain ⟨us,rfl,hu⟩:=hb.fK
   obtain ⟨k1,k2⟩:=afl (n:=9999) h hv hu
   simp only [Instr.sameBits,List.size_toArray,k1,BEq.rfl,Bool.true_and]
   exact k2
  | _=>simp [FN,eq1] at h
 | _=>exact afk (by cases kb<;>first | exact h | (simp [FN,eq1] at h ⊢)) ha hb
end Go.Proofs.YtljfmaaadnoggaaGreatDoor.cX
