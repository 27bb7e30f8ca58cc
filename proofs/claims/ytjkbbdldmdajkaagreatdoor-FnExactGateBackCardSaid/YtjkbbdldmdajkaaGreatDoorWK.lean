/- Keys of maps: numbers, texts, structs of these. No condition. -/
import Derived.Test.YtjkbbdldmdajkaaGreatDoorVQ
import Derived.Laws.StructEq
namespace Go.Proofs.YtjkbbdldmdajkaaGreatDoor.c_
open Go Go.RowKit
variable {w w' xk:World} {F F' Bs O O' v8:Nat→Prop} {μ bC lG:Nat→Nat} {K K' EF:Nat→Prop} {ft bZ:Nat→Nat→Prop} {P:Program} {R:Type}
def eq1:AV→AV→Option Bool
 | .int k a,.int k' b=>if k=k' then some (bH a b) else none
 | .str a,.str b=>some (seq a b)
 | _,_=>none
def eqL:List AV→List AV→Option Bool
 | [],[]=>some true
 | a::r,b::s=>match eq1 a b,eqL r s with
  | some p,some q=>some (p&&q)
  | _,_=>none
 | _,_=>none
def Eo:AV→AV→Option Bool
 | .agg xs,.agg ys=>eqL xs ys
 | a,b=>eq1 a b
def E7:TypeDesc→AV→Bool
 | .int _,.int _ _=>true
 | .string,.str _=>true
 | _,_=>false
def JF (P:Program):List Field→Nat→List AV→Bool
 | [],_,[]=>true
 | f::fs,i,a::r=>(f.name != "_"&&(Nat.beq f.offset i&&(Nat.beq (P.cellsOf f.type) 1&&(match P.underlying f.type with
  | some d=>E7 d a
  | none=>false))))&&JF P fs (i+1) r
 | _,_,_=>false
def BK (P:Program) (t:TypeId):AV→Bool
 | .agg as=>match P.underlying t with
  | some (.struct fs)=>!P.stoodInHeld t&&JF P fs.toList 0 as
  | _=>false
 | a=>match P.underlying t with
  | some d=>E7 d a
  | none=>false
theorem bytes_beq (a b:List UInt8):((⟨⟨a⟩⟩:ByteArray)==⟨⟨b⟩⟩)=seq a b:=by
 unfold seq;by_cases h:a=b
 ·subst h;have:((⟨⟨a⟩⟩:ByteArray)==⟨⟨a⟩⟩)=true:=by
   have h1:((⟨⟨a⟩⟩:ByteArray)==⟨⟨a⟩⟩)=((⟨a⟩:Array UInt8)==⟨a⟩):=rfl;rw [h1];simp
  rw [this];simp
 ·have:((⟨⟨a⟩⟩:ByteArray)==⟨⟨b⟩⟩)=((⟨a⟩:Array UInt8)==⟨b⟩):=rfl;rw [this];simp
theorem Xg {d:TypeDesc} {ka kb:AV} {kv ke:Value} {b:Bool} {t:TypeId} {n:Nat} (ht:P.underlying t=some d) (hd:E7 d ka=true) (h:eq1 ka kb=some b) (ha:VR w F μ K ka kv) (hb:VR w F bC K' kb ke):
  (Op.equalIn (n+1) t kv ke).run P w=.ok b w:=by
 cases ka with
 | int k a=>
  cases kb with
  | int k' c=>
   simp only [eq1] at h;split at h
   ·rename_i e;subst e;cases h;rw [ha.de,hb.de];cases d<;>simp [E7] at hd;rw [run_equalIn_int w n t _ _ _ _ ht];rfl
   ·cases h
  | _=>simp [eq1] at h
 | str a=>
  cases kb with
  | str c=>
   simp only [eq1] at h;cases h;rw [ha.jF,hb.jF];cases d<;>simp [E7] at hd;rw [run_equalIn_string w n t _ _ ht,← beq_toListBytes,bytes_beq]
  | _=>simp [eq1] at h
 | _=>simp [eq1] at h
theorem abh {t:TypeId} {d:TypeDesc} (h:P.underlying t=some d):∃ i,P.info? t=some i:=by
 unfold Program.underlying at h;cases e:P.info? t with
 | some i=>exact ⟨i,rfl⟩
 | none=>simp [e] at h
theorem Uu {f:Field} {fs:List Field} {i:Nat} {a:AV} {r:List AV} (h:JF P (f::fs) i (a::r)=true):
  f.name≠ "_"∧f.offset=i∧P.cellsOf f.type=1∧(∃ d,P.underlying f.type=some d∧E7 d a=true)∧JF P fs (i+1) r=true:=by
 simp only [JF,Bool.and_eq_true,bne_iff_ne,ne_eq] at h;obtain ⟨⟨h1,h2,h3,h4⟩,h5⟩:=h;refine ⟨h1,Nat.eq_of_beq_eq_true h2,Nat.eq_of_beq_eq_true h3,?_,h5⟩;split at h4
 ·rename_i d hd;exact ⟨d,hd,h4⟩
 ·cases h4
theorem abi {d:TypeDesc} {a:AV} (h:E7 d a=true):I3 d=false:=by
 cases d<;>cases a<;>simp [E7] at h<;>rfl
theorem K5 {f:Field} {i:Nat} {d:TypeDesc} {a:AV} {ka:List AV} {r:List AV} {vs:List Value} (hd:P.underlying f.type=some d) (hk:E7 d a=true) (hi:ka.drop i=a::r) (hv:iL w F μ K ka vs):
  ∃ v,(part f.type ⟨vs⟩ i).run P w=.ok v w∧VR w F μ K a v:=by
 obtain ⟨inf,ahu⟩:=abh hd;have dQ:i < ka.length:=by
  rcases Nat.lt_or_ge i ka.length with h | h
  ·exact h
  ·rw [List.drop_eq_nil_of_le h] at hi;cases hi
 have ha:ka.getD i .top=a:=by
  have:ka[i]?=some a:=by
   have:=congrArg (·[0]?) hi;simpa using this
  simp [List.getD,this]
 have hp:EL P f.type ka i=some a:=by
  unfold EL;rw [hd,ahu];simp only [abi hk,Bool.false_eq_true,if_false];rw [if_pos (by simp only [Nat.blt];exact Nat.ble_eq_true_of_le dQ),ha]
 exact NA hp hv
theorem Xh {n:Nat} {ka kb:List AV} {vs us:List Value} (hv:iL w F μ K ka vs) (hu:iL w F bC K' kb us):∀ (fs:List Field) (i:Nat) (as bs:List AV) (b:Bool),JF P fs i as=true→ka.drop i=as→kb.drop i=bs→eqL as bs=some b→
  (Op.eqFields (n+1) ⟨vs⟩ ⟨us⟩ fs).run P w=.ok b w
 | [],i,as,bs,b,h,_,_,he=>by
  cases as with
  | nil=>
   cases bs with
   | nil=>cases he;rfl
   | cons=>cases he
  | cons=>cases h
 | f::fs,i,as,bs,b,h,ha,hb,he=>by
  cases as with
  | nil=>cases h
  | cons a r=>
   cases bs with
   | nil=>cases he
   | cons c s=>
    obtain ⟨h1,h2,h3,⟨d,h4,h5⟩,h6⟩:=Uu h;subst h2;simp only [eqL] at he;split at he
    ·rename_i p q e1 e2;cases he;obtain ⟨v,k1,k2⟩:=K5 h4 h5 ha hv;have h5':E7 d c=true:=by
      cases a<;>cases c<;>simp [eq1] at e1<;>cases d<;>simp [E7] at h5 ⊢
     obtain ⟨u,k3,k4⟩:=K5 h4 h5' hb hu;have k5:=Xg (n:=n) (w:=w) h4 h5 e1 k2 k4;have ih:=Xh (n:=n) hv hu fs (f.offset+1) r s q h6 (by rw [← List.drop_drop,ha];rfl) (by rw [← List.drop_drop,hb];rfl) e2;simp only [Op.eqFields,if_pos h1,Sem.run_bind,k1,k3,k5,Result.andThen_ok];cases p with
     | true=>simpa using ih
     | false=>simp
    ·cases he
theorem QD {t:TypeId} {ka kb:AV} {kv ke:Value} {b:Bool} (hd:BK P t ka=true) (h:Eo ka kb=some b) (ha:VR w F μ K ka kv) (hb:VR w F bC K' kb ke):(Op.equal t kv ke).run P w=.ok b w:=by
 unfold Op.equal Op.maxDepth;cases ka with
 | agg xs=>
  cases kb with
  | agg ys=>
   obtain ⟨vs,rfl,hv⟩:=ha.fU;obtain ⟨us,rfl,hu⟩:=hb.fU;simp only [BK] at hd;split at hd
   ·rename_i fs YW;simp only [Bool.and_eq_true,Bool.not_eq_true'] at hd;have hf:P.fieldsOf t=fs:=by simp [Program.fieldsOf,YW]
    rw [run_equalIn_struct w 9999 t _ _ (by rw [hf];exact YW) hd.1,hf];exact Xh (n:=9998) hv hu fs.toList 0 xs ys b hd.2 rfl rfl h
   ·cases hd
  | _=>simp [Eo,eq1] at h
 | _=>
  simp only [BK] at hd;split at hd
  ·rename_i d hdt;exact Xg (n:=9999) hdt hd (by cases kb<;>first | exact h | (simp [Eo,eq1] at h ⊢)) ha hb
  ·cases hd
def lJ (ka:AV):List (AV×AV)→Nat→Option (Option Nat)
 | [],_=>some none
 | e::r,i=>match Eo ka e.1 with
  | some true=>some (some i)
  | some false=>lJ ka r (i+1)
  | none=>none
theorem agi {d:TypeDesc} {ka kb:AV} {kv ke:Value} {b:Bool} (hd:E7 d ka=true) (h:eq1 ka kb=some b) (ha:VR w F μ K ka kv) (hb:VR w F bC K' kb ke):Instr.sameNow d kv ke=some b:=by
 cases ka with
 | int k a=>
  cases kb with
  | int k' c=>
   simp only [eq1] at h;split at h
   ·rename_i e;subst e;cases h;rw [ha.de,hb.de];cases d<;>simp [E7] at hd;simp [Instr.sameNow,bH]
   ·cases h
  | _=>simp [eq1] at h
 | str a=>
  cases kb with
  | str c=>
   simp only [eq1] at h;cases h;rw [ha.jF,hb.jF];cases d<;>simp [E7] at hd;simp only [Instr.sameNow,bytes_beq]
  | _=>simp [eq1] at h
 | _=>simp [eq1] at h
theorem OM {d:TypeDesc} {t:TypeId} {ka kb:AV} {kv ke:Value} {b:Bool} (ht:P.underlying t=some d) (hd:BK P t ka=true) (h:Eo ka kb=some b) (ha:VR w F μ K ka kv) (hb:VR w F bC K' kb ke):Instr.sameNow d kv ke=some b∨Instr.sameNow d kv ke=none:=by
 cases ka with
 | agg xs=>
  obtain ⟨vs,rfl,hv⟩:=ha.fU;exact .inr (by cases d<;>rfl)
 | _=>
  simp only [BK,ht] at hd;exact .inl (agi hd (by cases kb<;>first | exact h | (simp [Eo,eq1] at h ⊢)) ha hb)
theorem ON {d:TypeDesc} {t:TypeId} {ka:AV} {kv:Value} (ht:P.underlying t=some d) (hd:BK P t ka=true) (ha:VR w F μ K ka kv):∀ {es:List MapEntry} {l:List (AV×AV)} {i:Nat} {r:Option Nat},es.length=l.length→
  (∀ j,j < l.length→VR w F bC Dc (l.getD j (.top,.top)).1 (es.getD j default).key)→lJ ka l i=some r→
  ∃ R,(Instr.findAsking t kv es i).run P w=.ok R w∧(Instr.findNow d kv es i=some R∨Instr.findNow d kv es i=none)∧(match r with
   | none=>R=none
   | some j=>i≤j∧j-i < es.length∧R=some (j,(es.getD (j-i) default).val)∧Eo ka (l.getD (j-i) (.top,.top)).1=some true)
 | [],[],i,r,_,_,h=>by
  simp only [lJ] at h;cases h;exact ⟨none,rfl,.inl rfl,rfl⟩
 | [],_::_,i,r,hl,_,_=>by cases hl
 | _::_,[],i,r,hl,_,_=>by cases hl
 | e::es,p::l,i,r,hl,hk,h=>by
  simp only [lJ] at h;have h0:=hk 0 (by simp);simp only [List.getD_cons_zero] at h0;split at h
  ·rename_i he;cases h;have k1:=QD hd he ha h0;refine ⟨some (i,e.val),by simp [Instr.findAsking,k1],?_,Nat.le_refl _,by simp,by simp,by simpa using he⟩;rcases OM ht hd he ha h0 with k2 | k2
   ·exact .inl (by simp [Instr.findNow,k2])
   ·exact .inr (by simp [Instr.findNow,k2])
  ·rename_i he;have k1:=QD hd he ha h0;obtain ⟨R,r1,r2,r3⟩:=ON ht hd ha (es:=es) (l:=l) (i:=i+1) (r:=r) (by simpa using hl) (fun j hj=>by simpa using hk (j+1) (by simpa using hj)) h;refine ⟨R,by simp [Instr.findAsking,k1];exact r1,?_,?_⟩
   ·rcases OM ht hd he ha h0 with k2 | k2
    ·simp only [Instr.findNow,k2];exact r2
    ·exact .inr (by simp [Instr.findNow,k2])
   ·cases r with
    | none=>exact r3
    | some j=>
     obtain ⟨h1,h2,h3,h4⟩:=r3;have e1:j-i=(j-(i+1))+1:=by omega
     refine ⟨by omega,by simp;omega,?_,?_⟩
     ·rw [h3,e1];simp
     ·rw [e1];simpa using h4
  ·cases h
theorem CO {d:TypeDesc} {t:TypeId} {ka:AV} {kv:Value} {es:List MapEntry} {l:List (AV×AV)} {r:Option Nat} (ht:P.underlying t=some d) (hd:BK P t ka=true) (ha:VR w F μ K ka kv) (hl:es.length=l.length)
  (hk:∀ j,j < l.length→VR w F bC Dc (l.getD j (.top,.top)).1 (es.getD j default).key) (h:lJ ka l 0=some r):
  match r with
  | none=>(Instr.findKey t kv es).run P w=.ok none w
  | some j=>j < es.length∧(Instr.findKey t kv es).run P w=.ok (some (j,(es.getD j default).val)) w∧Eo ka (l.getD j (.top,.top)).1=some true:=by
 obtain ⟨R,r1,r2,r3⟩:=ON ht hd ha hl hk h;have run:(Instr.findKey t kv es).run P w=.ok R w:=by
  rcases r2 with r2 | r2
  ·simp [Instr.findKey,cb ht,r2]
  ·simp [Instr.findKey,cb ht,r2,r1]
 cases r with
 | none=>rw [run,show R=none from r3]
 | some j=>
  obtain ⟨_,h2,h3,h4⟩:=r3;rw [Nat.sub_zero] at h2 h3 h4;exact ⟨h2,by rw [run,h3],h4⟩
theorem abj (n:Nat) {d:TypeDesc} {ka:AV} {kv:Value} {t:TypeId} {e:Bool} (ht:P.underlying t=some d) (hd:E7 d ka=true) (ha:VR w F μ K ka kv):(Instr.checkKey e (n+1) t kv).run P w=.ok () w:=by
 cases d<;>cases ka<;>simp [E7] at hd<;>first
  | (rw [ha.de];simp [Instr.checkKey,cb ht])
  | (rw [ha.jF];simp [Instr.checkKey,cb ht])
theorem abk {n:Nat} {e:Bool} {ka:List AV} {vs:List Value} (hv:iL w F μ K ka vs):∀ (fs:List Field) (i:Nat) (as:List AV),JF P fs i as=true→ka.drop i=as→
  (forIn (m:=Sem) fs PUnit.unit fun f _=>do
   if f.name≠ "_" then do
    Instr.checkKey e (n+1) f.type (← part f.type ⟨vs⟩ f.offset)
    pure (ForInStep.yield PUnit.unit)
   else pure (ForInStep.yield PUnit.unit)).run P w=.ok PUnit.unit w
 | [],_,_,_,_=>rfl
 | f::fs,i,as,h,ha=>by
  cases as with
  | nil=>cases h
  | cons a r=>
   obtain ⟨h1,h2,h3,⟨d,h4,h5⟩,h6⟩:=Uu h;subst h2;obtain ⟨v,k1,k2⟩:=K5 h4 h5 ha hv;have k3:=abj n (e:=e) h4 h5 k2;have ih:=abk (n:=n) (e:=e) hv fs (f.offset+1) r h6 (by rw [← List.drop_drop,ha];rfl);simp only [List.forIn_cons,if_pos h1,Sem.run_bind,k1,k3,Result.andThen_ok,Sem.run_pure];exact ih
theorem Fz {ka:AV} {kv:Value} {t:TypeId} {e:Bool} (hd:BK P t ka=true) (ha:VR w F μ K ka kv):(Instr.checkKey e 10000 t kv).run P w=.ok () w:=by
 cases ka with
 | agg xs=>
  obtain ⟨vs,rfl,hv⟩:=ha.fU;simp only [BK] at hd;split at hd
  ·rename_i fs YW;simp only [Bool.and_eq_true] at hd;have:=abk (n:=9998) (e:=e) hv fs.toList 0 xs hd.2 rfl;rw [Instr.checkKey];simp only [Sem.run_bind,cb YW,Result.andThen_ok];rw [← Array.forIn_toList];exact (congrArg (fun q=>q.andThen fun _ w'=>Sem.run P (pure ()) w') this).trans rfl
  ·cases hd
 | _=>
  simp only [BK] at hd;split at hd
  ·rename_i d hdt;exact abj 9999 hdt hd ha
  ·cases hd
theorem ads {n:Nat} {ka kb:AV} {kv ke:Value} (h:eq1 ka kb=some true) (ha:VR w F μ K ka kv) (hb:VR w F bC K' kb ke):Instr.sameBits n ke kv=true:=by
 cases ka with
 | int k a=>
  cases kb with
  | int k' c=>
   simp only [eq1] at h;split at h
   ·rename_i e;subst e;rw [ha.de,hb.de];have:a=c:=by simpa [bH] using h
    cases n<;>simp [Instr.sameBits,this]
   ·cases h
  | _=>simp [eq1] at h
 | str a=>
  cases kb with
  | str c=>
   simp only [eq1,Option.some.injEq] at h;have e:a=c:=by simpa [seq] using h
   rw [ha.jF,hb.jF];cases n<;>(simp only [Instr.sameBits,bytes_beq,seq,e];simp)
  | _=>simp [eq1] at h
 | _=>simp [eq1] at h
theorem adt {n:Nat}:∀ {as bs:List AV} {vs us:List Value},eqL as bs=some true→iL w F μ K as vs→iL w F bC K' bs us→us.length=vs.length∧(us.zip vs).all (fun p=>Instr.sameBits n p.1 p.2)=true
 | [],[],vs,us,_,hv,hu=>by rw [hv.iK,hu.iK];exact ⟨rfl,rfl⟩
 | [],_::_,_,_,h,_,_=>by cases h
 | _::_,[],_,_,h,_,_=>by cases h
 | a::r,b::s,vs,us,h,hv,hu=>by
  obtain ⟨v,vr,rfl,h1,h2⟩:=hv.cons_inv;obtain ⟨u,ur,rfl,h3,h4⟩:=hu.cons_inv;simp only [eqL] at h;split at h
  ·rename_i p q e1 e2;simp only [Option.some.injEq,Bool.and_eq_true] at h;obtain ⟨rfl,rfl⟩:=h;obtain ⟨k1,k2⟩:=adt (n:=n) e2 h2 h4;exact ⟨by simp [k1],by simp only [List.zip_cons_cons,List.all_cons,Bool.and_eq_true];exact ⟨ads e1 h1 h3,k2⟩⟩
  ·cases h
theorem Ut {ka kb:AV} {kv ke:Value} (h:Eo ka kb=some true) (ha:VR w F μ K ka kv) (hb:VR w F bC K' kb ke):Instr.sameBits 10000 ke kv=true:=by
 cases ka with
 | agg xs=>
  cases kb with
  | agg ys=>
   obtain ⟨vs,rfl,hv⟩:=ha.fU;obtain ⟨us,rfl,hu⟩:=hb.fU;obtain ⟨k1,k2⟩:=adt (n:=9999) h hv hu;simp only [Instr.sameBits,List.size_toArray,k1,BEq.rfl,Bool.true_and];exact k2
  | _=>simp [Eo,eq1] at h
 | _=>exact ads (by cases kb<;>first | exact h | (simp [Eo,eq1] at h ⊢)) ha hb
end Go.Proofs.YtjkbbdldmdajkaaGreatDoor.c_
