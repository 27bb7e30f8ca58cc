/- Maps of the call's own: made, looked up, written. No condition. -/
import Derived.Test.YtjkbbdldmdajkaaGreatDoorVQ
import Derived.Laws.StructEq
set_option linter.unusedSimpArgs false
set_option linter.unusedVariables false
namespace Go.Proofs.YtjkbbdldmdajkaaGreatDoor.c5
open Go Go.RowKit
variable {w w' ss:World} {F F' zT O O' uo:Nat→Prop} {μ aZ jE:Nat→Nat} {K K' C9:Nat→Prop} {ft bX:Nat→Nat→Prop} {P:Program} {R:Type}
def eq1:AV→AV→Option Bool
 | .int k a,.int k' b=>if k=k' then some (bI a b) else none
 | .str a,.str b=>some (seq a b)
 | _,_=>none
def eqL:List AV→List AV→Option Bool
 | [],[]=>some true
 | a::r,b::s=>match eq1 a b,eqL r s with
  | some p,some q=>some (p&&q)
  | _,_=>none
 | _,_=>none
def DL:AV→AV→Option Bool
 | .agg xs,.agg ys=>eqL xs ys
 | a,b=>eq1 a b
def Ew:TypeDesc→AV→Bool
 | .int _,.int _ _=>true
 | .string,.str _=>true
 | _,_=>false
def I8 (P:Program):List Field→Nat→List AV→Bool
 | [],_,[]=>true
 | f::fs,i,a::r=>(f.name != "_"&&(Nat.beq f.offset i&&(Nat.beq (P.cellsOf f.type) 1&&(match P.underlying f.type with
  | some d=>Ew d a
  | none=>false))))&&I8 P fs (i+1) r
 | _,_,_=>false
def A3 (P:Program) (t:TypeId):AV→Bool
 | .agg as=>match P.underlying t with
  | some (.struct fs)=>!P.stoodInHeld t&&I8 P fs.toList 0 as
  | _=>false
 | a=>match P.underlying t with
  | some d=>Ew d a
  | none=>false
theorem bytes_beq (a b:List UInt8):((⟨⟨a⟩⟩:ByteArray)==⟨⟨b⟩⟩)=seq a b:=by
 unfold seq;by_cases h:a=b
 ·subst h;have:((⟨⟨a⟩⟩:ByteArray)==⟨⟨a⟩⟩)=true:=by
   have h1:((⟨⟨a⟩⟩:ByteArray)==⟨⟨a⟩⟩)=((⟨a⟩:Array UInt8)==⟨a⟩):=rfl;rw [h1];simp
  rw [this];simp
 ·have:((⟨⟨a⟩⟩:ByteArray)==⟨⟨b⟩⟩)=((⟨a⟩:Array UInt8)==⟨b⟩):=rfl;rw [this];simp
theorem WY {d:TypeDesc} {ka kb:AV} {kv ke:Value} {b:Bool} {t:TypeId} {n:Nat} (ht:P.underlying t=some d) (hd:Ew d ka=true) (h:eq1 ka kb=some b) (ha:VR w F μ K ka kv) (hb:VR w F aZ K' kb ke):
  (Op.equalIn (n+1) t kv ke).run P w=.ok b w:=by
 cases ka with
 | int k a=>
  cases kb with
  | int k' c=>
   simp only [eq1] at h;split at h
   ·rename_i e;subst e;cases h;rw [ha.c8,hb.c8];cases d<;>simp [Ew] at hd;rw [run_equalIn_int w n t _ _ _ _ ht];rfl
   ·cases h
  | _=>simp [eq1] at h
 | str a=>
  cases kb with
  | str c=>
   simp only [eq1] at h;cases h;rw [ha.jn,hb.jn];cases d<;>simp [Ew] at hd;rw [run_equalIn_string w n t _ _ ht,← beq_toListBytes,bytes_beq]
  | _=>simp [eq1] at h
 | _=>simp [eq1] at h
theorem aaL {t:TypeId} {d:TypeDesc} (h:P.underlying t=some d):∃ i,P.info? t=some i:=by
 unfold Program.underlying at h;cases e:P.info? t with
 | some i=>exact ⟨i,rfl⟩
 | none=>simp [e] at h
theorem TZ {f:Field} {fs:List Field} {i:Nat} {a:AV} {r:List AV} (h:I8 P (f::fs) i (a::r)=true):
  f.name≠ "_"∧f.offset=i∧P.cellsOf f.type=1∧(∃ d,P.underlying f.type=some d∧Ew d a=true)∧I8 P fs (i+1) r=true:=by
 simp only [I8,Bool.and_eq_true,bne_iff_ne,ne_eq] at h;obtain ⟨⟨h1,h2,h3,h4⟩,h5⟩:=h;refine ⟨h1,Nat.eq_of_beq_eq_true h2,Nat.eq_of_beq_eq_true h3,?_,h5⟩;split at h4
 ·rename_i d hd;exact ⟨d,hd,h4⟩
 ·cases h4
theorem aaM {d:TypeDesc} {a:AV} (h:Ew d a=true):Iv d=false:=by
 cases d<;>cases a<;>simp [Ew] at h<;>rfl
theorem Ku {f:Field} {i:Nat} {d:TypeDesc} {a:AV} {ka:List AV} {r:List AV} {vs:List Value} (hd:P.underlying f.type=some d) (hk:Ew d a=true) (hi:ka.drop i=a::r) (hv:gZ w F μ K ka vs):
  ∃ v,(part f.type ⟨vs⟩ i).run P w=.ok v w∧VR w F μ K a v:=by
 obtain ⟨inf,ahS⟩:=aaL hd;have dY:i < ka.length:=by
  rcases Nat.lt_or_ge i ka.length with h | h
  ·exact h
  ·rw [List.drop_eq_nil_of_le h] at hi;cases hi
 have ha:ka.getD i .top=a:=by
  have:ka[i]?=some a:=by
   have:=congrArg (·[0]?) hi;simpa using this
  simp [List.getD,this]
 have hp:D8 P f.type ka i=some a:=by
  unfold D8;rw [hd,ahS];simp only [aaM hk,Bool.false_eq_true,if_false];rw [if_pos (by simp only [Nat.blt];exact Nat.ble_eq_true_of_le dY),ha]
 exact M1 hp hv
theorem WZ {n:Nat} {ka kb:List AV} {vs us:List Value} (hv:gZ w F μ K ka vs) (hu:gZ w F aZ K' kb us):∀ (fs:List Field) (i:Nat) (as bs:List AV) (b:Bool),I8 P fs i as=true→ka.drop i=as→kb.drop i=bs→eqL as bs=some b→
  (Op.eqFields (n+1) ⟨vs⟩ ⟨us⟩ fs).run P w=.ok b w
 | [],i,as,bs,b,h,_,_,he=>by
  cases as with
  | nil=>
   cases bs with
   | nil=>cases he;rfl
   | cons=>cases he
  | cons=>cases h
 | f::fs,i,as,bs,b,h,ha,hb,he=>by
  cases as with
  | nil=>cases h
  | cons a r=>
   cases bs with
   | nil=>cases he
   | cons c s=>
    obtain ⟨h1,h2,h3,⟨d,h4,h5⟩,h6⟩:=TZ h;subst h2;simp only [eqL] at he;split at he
    ·rename_i p q e1 e2;cases he;obtain ⟨v,k1,k2⟩:=Ku h4 h5 ha hv;have h5':Ew d c=true:=by
      cases a<;>cases c<;>simp [eq1] at e1<;>cases d<;>simp [Ew] at h5 ⊢
     obtain ⟨u,k3,k4⟩:=Ku h4 h5' hb hu;have k5:=WY (n:=n) (w:=w) h4 h5 e1 k2 k4;have ih:=WZ (n:=n) hv hu fs (f.offset+1) r s q h6 (by rw [← List.drop_drop,ha];rfl) (by rw [← List.drop_drop,hb];rfl) e2;simp only [Op.eqFields,if_pos h1,Sem.run_bind,k1,k3,k5,Result.andThen_ok];cases p with
     | true=>simpa using ih
     | false=>simp
    ·cases he
theorem Qc {t:TypeId} {ka kb:AV} {kv ke:Value} {b:Bool} (hd:A3 P t ka=true) (h:DL ka kb=some b) (ha:VR w F μ K ka kv) (hb:VR w F aZ K' kb ke):(Op.equal t kv ke).run P w=.ok b w:=by
 unfold Op.equal Op.maxDepth;cases ka with
 | agg xs=>
  cases kb with
  | agg ys=>
   obtain ⟨vs,rfl,hv⟩:=ha.fH;obtain ⟨us,rfl,hu⟩:=hb.fH;simp only [A3] at hd;split at hd
   ·rename_i fs YC;simp only [Bool.and_eq_true,Bool.not_eq_true'] at hd;have hf:P.fieldsOf t=fs:=by simp [Program.fieldsOf,YC]
    rw [run_equalIn_struct w 9999 t _ _ (by rw [hf];exact YC) hd.1,hf];exact WZ (n:=9998) hv hu fs.toList 0 xs ys b hd.2 rfl rfl h
   ·cases hd
  | _=>simp [DL,eq1] at h
 | _=>
  simp only [A3] at hd;split at hd
  ·rename_i d hdt;exact WY (n:=9999) hdt hd (by cases kb<;>first | exact h | (simp [DL,eq1] at h ⊢)) ha hb
  ·cases hd
def kV (ka:AV):List (AV×AV)→Nat→Option (Option Nat)
 | [],_=>some none
 | e::r,i=>match DL ka e.1 with
  | some true=>some (some i)
  | some false=>kV ka r (i+1)
  | none=>none
theorem af9 {d:TypeDesc} {ka kb:AV} {kv ke:Value} {b:Bool} (hd:Ew d ka=true) (h:eq1 ka kb=some b) (ha:VR w F μ K ka kv) (hb:VR w F aZ K' kb ke):Instr.sameNow d kv ke=some b:=by
 cases ka with
 | int k a=>
  cases kb with
  | int k' c=>
   simp only [eq1] at h;split at h
   ·rename_i e;subst e;cases h;rw [ha.c8,hb.c8];cases d<;>simp [Ew] at hd;simp [Instr.sameNow,bI]
   ·cases h
  | _=>simp [eq1] at h
 | str a=>
  cases kb with
  | str c=>
   simp only [eq1] at h;cases h;rw [ha.jn,hb.jn];cases d<;>simp [Ew] at hd;simp only [Instr.sameNow,bytes_beq]
  | _=>simp [eq1] at h
 | _=>simp [eq1] at h
theorem Oc {d:TypeDesc} {t:TypeId} {ka kb:AV} {kv ke:Value} {b:Bool} (ht:P.underlying t=some d) (hd:A3 P t ka=true) (h:DL ka kb=some b) (ha:VR w F μ K ka kv) (hb:VR w F aZ K' kb ke):Instr.sameNow d kv ke=some b∨Instr.sameNow d kv ke=none:=by
 cases ka with
 | agg xs=>
  obtain ⟨vs,rfl,hv⟩:=ha.fH;exact .inr (by cases d<;>rfl)
 | _=>
  simp only [A3,ht] at hd;exact .inl (af9 hd (by cases kb<;>first | exact h | (simp [DL,eq1] at h ⊢)) ha hb)
theorem Od {d:TypeDesc} {t:TypeId} {ka:AV} {kv:Value} (ht:P.underlying t=some d) (hd:A3 P t ka=true) (ha:VR w F μ K ka kv):∀ {es:List MapEntry} {l:List (AV×AV)} {i:Nat} {r:Option Nat},es.length=l.length→
  (∀ j,j < l.length→VR w F aZ Cv (l.getD j (.top,.top)).1 (es.getD j default).key)→kV ka l i=some r→
  ∃ R,(Instr.findAsking t kv es i).run P w=.ok R w∧(Instr.findNow d kv es i=some R∨Instr.findNow d kv es i=none)∧(match r with
   | none=>R=none
   | some j=>i≤j∧j-i < es.length∧R=some (j,(es.getD (j-i) default).val)∧DL ka (l.getD (j-i) (.top,.top)).1=some true)
 | [],[],i,r,_,_,h=>by
  simp only [kV] at h;cases h;exact ⟨none,rfl,.inl rfl,rfl⟩
 | [],_::_,i,r,hl,_,_=>by cases hl
 | _::_,[],i,r,hl,_,_=>by cases hl
 | e::es,p::l,i,r,hl,hk,h=>by
  simp only [kV] at h;have h0:=hk 0 (by simp);simp only [List.getD_cons_zero] at h0;split at h
  ·rename_i he;cases h;have k1:=Qc hd he ha h0;refine ⟨some (i,e.val),by simp [Instr.findAsking,k1],?_,Nat.le_refl _,by simp,by simp,by simpa using he⟩;rcases Oc ht hd he ha h0 with k2 | k2
   ·exact .inl (by simp [Instr.findNow,k2])
   ·exact .inr (by simp [Instr.findNow,k2])
  ·rename_i he;have k1:=Qc hd he ha h0;obtain ⟨R,r1,r2,r3⟩:=Od ht hd ha (es:=es) (l:=l) (i:=i+1) (r:=r) (by simpa using hl) (fun j hj=>by simpa using hk (j+1) (by simpa using hj)) h;refine ⟨R,by simp [Instr.findAsking,k1];exact r1,?_,?_⟩
   ·rcases Oc ht hd he ha h0 with k2 | k2
    ·simp only [Instr.findNow,k2];exact r2
    ·exact .inr (by simp [Instr.findNow,k2])
   ·cases r with
    | none=>exact r3
    | some j=>
     obtain ⟨h1,h2,h3,h4⟩:=r3;have e1:j-i=(j-(i+1))+1:=by omega
     refine ⟨by omega,by simp;omega,?_,?_⟩
     ·rw [h3,e1];simp
     ·rw [e1];simpa using h4
  ·cases h
theorem B7 {d:TypeDesc} {t:TypeId} {ka:AV} {kv:Value} {es:List MapEntry} {l:List (AV×AV)} {r:Option Nat} (ht:P.underlying t=some d) (hd:A3 P t ka=true) (ha:VR w F μ K ka kv) (hl:es.length=l.length)
  (hk:∀ j,j < l.length→VR w F aZ Cv (l.getD j (.top,.top)).1 (es.getD j default).key) (h:kV ka l 0=some r):
  match r with
  | none=>(Instr.findKey t kv es).run P w=.ok none w
  | some j=>j < es.length∧(Instr.findKey t kv es).run P w=.ok (some (j,(es.getD j default).val)) w∧DL ka (l.getD j (.top,.top)).1=some true:=by
 obtain ⟨R,r1,r2,r3⟩:=Od ht hd ha hl hk h;have run:(Instr.findKey t kv es).run P w=.ok R w:=by
  rcases r2 with r2 | r2
  ·simp [Instr.findKey,ca ht,r2]
  ·simp [Instr.findKey,ca ht,r2,r1]
 cases r with
 | none=>rw [run,show R=none from r3]
 | some j=>
  obtain ⟨_,h2,h3,h4⟩:=r3;rw [Nat.sub_zero] at h2 h3 h4;exact ⟨h2,by rw [run,h3],h4⟩
theorem aaN (n:Nat) {d:TypeDesc} {ka:AV} {kv:Value} {t:TypeId} {e:Bool} (ht:P.underlying t=some d) (hd:Ew d ka=true) (ha:VR w F μ K ka kv):(Instr.checkKey e (n+1) t kv).run P w=.ok () w:=by
 cases d<;>cases ka<;>simp [Ew] at hd<;>first
  | (rw [ha.c8];simp [Instr.checkKey,ca ht])
  | (rw [ha.jn];simp [Instr.checkKey,ca ht])
theorem aaO {n:Nat} {e:Bool} {ka:List AV} {vs:List Value} (hv:gZ w F μ K ka vs):∀ (fs:List Field) (i:Nat) (as:List AV),I8 P fs i as=true→ka.drop i=as→
  (forIn (m:=Sem) fs PUnit.unit fun f _=>do
   if f.name≠ "_" then do
    Instr.checkKey e (n+1) f.type (← part f.type ⟨vs⟩ f.offset)
    pure (ForInStep.yield PUnit.unit)
   else pure (ForInStep.yield PUnit.unit)).run P w=.ok PUnit.unit w
 | [],_,_,_,_=>rfl
 | f::fs,i,as,h,ha=>by
  cases as with
  | nil=>cases h
  | cons a r=>
   obtain ⟨h1,h2,h3,⟨d,h4,h5⟩,h6⟩:=TZ h;subst h2;obtain ⟨v,k1,k2⟩:=Ku h4 h5 ha hv;have k3:=aaN n (e:=e) h4 h5 k2;have ih:=aaO (n:=n) (e:=e) hv fs (f.offset+1) r h6 (by rw [← List.drop_drop,ha];rfl);simp only [List.forIn_cons,if_pos h1,Sem.run_bind,k1,k3,Result.andThen_ok,Sem.run_pure];exact ih
theorem EU {ka:AV} {kv:Value} {t:TypeId} {e:Bool} (hd:A3 P t ka=true) (ha:VR w F μ K ka kv):(Instr.checkKey e 10000 t kv).run P w=.ok () w:=by
 cases ka with
 | agg xs=>
  obtain ⟨vs,rfl,hv⟩:=ha.fH;simp only [A3] at hd;split at hd
  ·rename_i fs YC;simp only [Bool.and_eq_true] at hd;have:=aaO (n:=9998) (e:=e) hv fs.toList 0 xs hd.2 rfl;rw [Instr.checkKey];simp only [Sem.run_bind,ca YC,Result.andThen_ok];rw [← Array.forIn_toList];exact (congrArg (fun q=>q.andThen fun _ w'=>Sem.run P (pure ()) w') this).trans rfl
  ·cases hd
 | _=>
  simp only [A3] at hd;split at hd
  ·rename_i d hdt;exact aaN 9999 hdt hd ha
  ·cases hd
theorem ac3 {n:Nat} {ka kb:AV} {kv ke:Value} (h:eq1 ka kb=some true) (ha:VR w F μ K ka kv) (hb:VR w F aZ K' kb ke):Instr.sameBits n ke kv=true:=by
 cases ka with
 | int k a=>
  cases kb with
  | int k' c=>
   simp only [eq1] at h;split at h
   ·rename_i e;subst e;rw [ha.c8,hb.c8];have:a=c:=by simpa [bI] using h
    cases n<;>simp [Instr.sameBits,this]
   ·cases h
  | _=>simp [eq1] at h
 | str a=>
  cases kb with
  | str c=>
   simp only [eq1,Option.some.injEq] at h;have e:a=c:=by simpa [seq] using h
   rw [ha.jn,hb.jn];cases n<;>(simp only [Instr.sameBits,bytes_beq,seq,e];simp)
  | _=>simp [eq1] at h
 | _=>simp [eq1] at h
theorem ac4 {n:Nat}:∀ {as bs:List AV} {vs us:List Value},eqL as bs=some true→gZ w F μ K as vs→gZ w F aZ K' bs us→us.length=vs.length∧(us.zip vs).all (fun p=>Instr.sameBits n p.1 p.2)=true
 | [],[],vs,us,_,hv,hu=>by rw [hv.gY,hu.gY];exact ⟨rfl,rfl⟩
 | [],_::_,_,_,h,_,_=>by cases h
 | _::_,[],_,_,h,_,_=>by cases h
 | a::r,b::s,vs,us,h,hv,hu=>by
  obtain ⟨v,vr,rfl,h1,h2⟩:=hv.cons_inv;obtain ⟨u,ur,rfl,h3,h4⟩:=hu.cons_inv;simp only [eqL] at h;split at h
  ·rename_i p q e1 e2;simp only [Option.some.injEq,Bool.and_eq_true] at h;obtain ⟨rfl,rfl⟩:=h;obtain ⟨k1,k2⟩:=ac4 (n:=n) e2 h2 h4;exact ⟨by simp [k1],by simp only [List.zip_cons_cons,List.all_cons,Bool.and_eq_true];exact ⟨ac3 e1 h1 h3,k2⟩⟩
  ·cases h
theorem TY {ka kb:AV} {kv ke:Value} (h:DL ka kb=some true) (ha:VR w F μ K ka kv) (hb:VR w F aZ K' kb ke):Instr.sameBits 10000 ke kv=true:=by
 cases ka with
 | agg xs=>
  cases kb with
  | agg ys=>
   obtain ⟨vs,rfl,hv⟩:=ha.fH;obtain ⟨us,rfl,hu⟩:=hb.fH;obtain ⟨k1,k2⟩:=ac4 (n:=9999) h hv hu;simp only [Instr.sameBits,List.size_toArray,k1,BEq.rfl,Bool.true_and];exact k2
  | _=>simp [DL,eq1] at h
 | _=>exact ac3 (by cases kb<;>first | exact h | (simp [DL,eq1] at h ⊢)) ha hb
end Go.Proofs.YtjkbbdldmdajkaaGreatDoor.c5
namespace Go.Proofs.YtjkbbdldmdajkaaGreatDoor.c5
open Go Go.RowKit
variable {w w' ss:World} {F F' zT O O' uo:Nat→Prop} {μ aZ jE:Nat→Nat} {K K' C9:Nat→Prop} {ft bX:Nat→Nat→Prop} {P:Program} {R:Type}
theorem Oe {o:Oper} {s:fG} {t:TypeId} {N:Nat} (ho:o.op=.makeMap t none):dg P o s ⟨.mp N,[(N,some (.map []))],[N]⟩:=
 qk fun {w F O μ K ft act} hs=>by
  refine ⟨.map (some w.heap.size),.map #[] 0,w.drawn,?_,⟨#[],0,rfl,fun x=>Iff.rfl,rfl,(fun i hi=>absurd hi (by simp)),fun i j _ hj=>absurd hj (by simp)⟩,fun w' aZ _ _ hm=>?_⟩
  ·simp [execOp,ho,Instr.makeMap]
  ·rw [← hm];exact .mp N (.inr (by simp))
def zv:Value→AV
 | .agg ⟨cs⟩=>.agg (cs.map V7)
 | v=>V7 v
theorem ac2 (v:Value):VR w F μ K (zv v) v:=by
 unfold zv;split
 ·rename_i cs;exact .qO ⟨by simp,fun i hi=>by
   have da:i < cs.length:=by simpa using hi
   have e:(cs.map V7).getD i .top=V7 (cs.getD i undef):=by simp [List.getD,da]
   rw [e];exact J0 _⟩
 ·exact J0 _
def zvA (P:Program) (t:TypeId):Option AV:=match P.info? t with
 | some i=>match i.zero with
  | some z=>some (zv z)
  | none=>none
 | none=>none
theorem aaK {t:TypeId} {a:AV} (h:zvA P t=some a):∃ z,(∀ w,(zeroValue t).run P w=.ok z w)∧a=zv z:=by
 unfold zvA at h;split at h
 ·rename_i i hi;split at h
  ·rename_i z hz;exact ⟨z,fun w=>QV hi hz,by simpa using h.symm⟩
  ·cases h
 ·cases h
def Of (ok:Bool) (v:AV) (b:Bool):AV:=match ok with
 | true=>.ov [v,.bool b]
 | false=>v
theorem T2 {ok:Bool} {a:AV} {v:Value} {b:Bool} (h:VR w F μ K a v):VR w F μ K (Of ok a b) (if ok then .tuple #[v,.bool b] else v):=by
 cases ok with
 | false=>exact h
 | true=>exact .KR (.cons h (.cons (.bool _) .nil))
theorem L2 {S:Nat→Prop} {b:Nat} {o:Obj} {l:List (AV×AV)} (h:hP w F μ K S b o (.map l)):∃ es clock,o=.map es clock∧(∀ x,S x↔x=b)∧es.size=l.length∧(∀ i,i < l.length→(es.getD i default).born < clock∧VR w F μ Cv (l.getD i (.top,.top)).1 (es.getD i default).key∧VR w F μ Cv (l.getD i (.top,.top)).2 (es.getD i default).val)∧
   ∀ i j,i < j→j < es.size→(es.getD i default).born < (es.getD j default).born:=h
theorem zr (es:Array MapEntry) (i:Nat):es.toList.getD i default=es.getD i default:=by
 simp [List.getD,Array.getD_eq_getD_getElem?]
theorem il {r:Nat} {es:Array MapEntry} {c:Nat} (h:w.heap[r]?=some (.map es c)):(getObj r).run P w=.ok (.map es c) w:=by
 simp [getObj,Sem.run,h]
theorem lW {r:Nat} {es:Array MapEntry} {c:Nat} {o:Obj} (h:w.heap[r]?=some (.map es c)):(setObj r o).run P w=.ok () (jA w r o):=by
 have dY:r < w.heap.size:=(Array.getElem?_eq_some_iff.1 h).1;have h':w.heap[r]=.map es c:=by simpa [dY] using h
 simp [setObj,Sem.run,h',dY,jA]
def zq (ok:Bool) (za:AV) (l:List (AV×AV)):Option Nat→AV
 | none=>Of ok za false
 | some j=>Of ok (l.getD j (.top,.top)).2 true
theorem Qa {o:Oper} {s:fG} {t kt et:TypeId} {x k:Operand} {ok:Bool} {id:Nat} {l:List (AV×AV)} {ka za:AV} {d:TypeDesc} {r:Option Nat} (ho:o.op=.lookup t x k ok) (hx:dT s x (.mp id)) (hH:s.H id=some (.map l)) (hk:dT s k ka)
  (ht:P.underlying t=some (.map kt et)) (C6:P.underlying kt=some d) (hd:A3 P kt ka=true) (hf:kV ka l 0=some r) (hz:zvA P et=some za):
  ∀ {w:World} {F O:Nat→Prop} {μ:Nat→Nat} {K:Nat→Prop} {ft:Nat→Nat→Prop} {act:Act},SR w F O μ K s ft act→∃ v,(execOp act.eval o).run P w=.ok (.value v) w∧VR w F μ K (zq ok za l r) v:=fun {w F O μ K ft act} hs=>by
  obtain ⟨z,XH,rfl⟩:=aaK hz;obtain ⟨ob,po,hB⟩:=hs.hr.du id _ hH rfl;obtain ⟨es,clock,rfl,h2,h3,h4,h5⟩:=L2 hB;have hv:=hx hs;have TX:=hk hs;generalize Ea:act.eval x=v at hv;cases hv with
  | mp _ bZ=>
   have SH:=B7 (w:=w) (es:=es.toList) C6 hd TX (by simpa using h3) (fun j hj=>by rw [zr];exact (h4 j hj).2.1) hf;have YP:∀ e,(Instr.checkKey e 10000 kt (act.eval k)).run P w=.ok () w:=fun e=>EU hd TX;cases r with
   | none=>
    simp only at SH;have ym:=SH;refine ⟨if ok then .tuple #[z,.bool false] else z,?_,T2 (ac2 z)⟩;simp [execOp,ho,Instr.lookup,ca ht,Ea,il po,YP,ym,XH]
   | some j=>
    obtain ⟨k2,ym,_⟩:=SH;have hj:j < l.length:=by
     have:es.toList.length=l.length:=by simpa using h3
     omega
    refine ⟨if ok then .tuple #[(es.getD j default).val,.bool true] else (es.getD j default).val,?_,T2 (h4 j hj).2.2.up⟩;rw [zr] at ym;simp [execOp,ho,Instr.lookup,ca ht,Ea,il po,YP,ym]
theorem A4 {o:Oper} {s:fG} {t kt et:TypeId} {x k:Operand} {ok:Bool} {id:Nat} {l:List (AV×AV)} {ka za:AV} {d:TypeDesc} {r:Option Nat} (ho:o.op=.lookup t x k ok) (hx:dT s x (.mp id)) (hH:s.H id=some (.map l)) (hk:dT s k ka)
  (ht:P.underlying t=some (.map kt et)) (C6:P.underlying kt=some d) (hd:A3 P kt ka=true) (hf:kV ka l 0=some r) (hz:zvA P et=some za):
  dg P o s ⟨zq ok za l r,[],[]⟩:=b7 fun hs=>Qa ho hx hH hk ht C6 hd hf hz hs
def pn (l:List (AV×AV)) (ka va:AV):Option Nat→List (AV×AV)
 | none=>l++[(ka,va)]
 | some j=>l.set j (ka,va)
theorem so {o:Oper} {s:fG} {t kt et:TypeId} {m k x:Operand} {id:Nat} {l:List (AV×AV)} {ka va:AV} {d:TypeDesc} {r:Option Nat} (ho:o.op=.mapUpdate t m k x∨o.op=.insert t m k x) (hx:dT s m (.mp id)) (hH:s.H id=some (.map l)) (hk:dT s k ka)
  (hv:dT s x va) (LK:PI va) (YP:PI ka) (ht:P.underlying t=some (.map kt et)) (C6:P.underlying kt=some d) (hd:A3 P kt ka=true) (hf:kV ka l 0=some r):
  dg P o s ⟨.lit undef,[(id,some (.map (pn l ka va r)))],[]⟩:=by
 intro w F O μ K ft act hs _ Kn Q wu;obtain ⟨ob,po,hB⟩:=hs.hr.du id _ hH rfl;obtain ⟨es,clock,rfl,h2,h3,h4,h5⟩:=L2 hB;have hm:=hx hs;have TX:=hk hs;have hvv:=hv hs;generalize Ea:act.eval m=u at hm;cases hm with
 | mp _ bZ=>
  have SH:=B7 (w:=w) (es:=es.toList) C6 hd TX (by simpa using h3) (fun j hj=>by rw [zr];exact (h4 j hj).2.1) hf;have hch:∀ e,(Instr.checkKey e 10000 kt (act.eval k)).run P w=.ok () w:=fun e=>EU hd TX;have gC:s.H.live id:=⟨_,hH,rfl⟩;have fin:∀ (WX:Array MapEntry) (c':Nat) (l':List (AV×AV)),(execOp act.eval o).run P w=.ok .skip (jA w (μ id) (.map WX c'))→hP w F μ K (fun x=>x=μ id) (μ id) (.map WX c') (.map l')→
    (∀ (w':World) F' O' aZ bX,VR w' F' aZ K (.lit undef) undef→HR w' F' O' aZ K (s.H.c_ [(id,some (.map l'))]) bX→Fr w F O μ K w' F' O' aZ→Kn (act.put o.dst undef) w')→o.wp P act w Kn Q:=by
   intro WX c' l' kT M4 hgo;obtain ⟨O',bX,k1,k2⟩:=lV (L:=[]) hs.hr hH rfl po (o':=.map WX c') (by simp [sameShape]) (by simp) (fun y (hy:y=μ id)=>⟨id,.inl rfl,gC,hy▸hs.hr.self id gC⟩) rfl M4;unfold Oper.wp;rw [kT,Oper.upon_skip];exact hgo _ F O' μ bX (.lit _) k1 k2
  have out:∀ (w':World) F' O' aZ bX,VR w' F' aZ K (.lit undef) undef→HR w' F' O' aZ K (s.H.c_ [(id,some (.map (pn l ka va r)))]) bX→Fr w F O μ K w' F' O' aZ→Kn (act.put o.dst undef) w':=fun w' F' O' aZ bX k1 k2 k3=>
   wu undef w' F' O' aZ bX (by simp only [jm];exact k1) (by simp only [jm];exact k2) k3
  cases r with
  | none=>
   simp only at SH;have ym:=SH;refine fin (es.push { key:=act.eval k,val:=act.eval x,born:=clock }) (clock+1) _ ?_ ?_ out
   ·rcases ho with ho | ho<;>simp [execOp,ho,Instr.mapUpdate,ca ht,Ea,il po,hch,ym,lW po]
   ·refine ⟨_,_,rfl,fun _=>Iff.rfl,by simp [pn,h3],fun i hi=>?_,fun i j H_ hj=>?_⟩
    ·simp only [pn,List.length_append,List.length_cons,List.length_nil] at hi;by_cases e:i < l.length
     ·have e1:(es.push { key:=act.eval k,val:=act.eval x,born:=clock }).getD i default=es.getD i default:=by
       simp [Array.getD_eq_getD_getElem?,Array.getElem?_push,show i≠es.size by omega]
      have e2:(pn l ka va none).getD i (.top,.top)=l.getD i (.top,.top):=by simp [pn,List.getD,List.getElem?_append,e]
      obtain ⟨q1,q2,q3⟩:=h4 i e;rw [e1,e2];exact ⟨by omega,q2,q3⟩
     ·have ei:i=es.size:=by omega
      have e1:(es.push { key:=act.eval k,val:=act.eval x,born:=clock }).getD i default={ key:=act.eval k,val:=act.eval x,born:=clock }:=by
       simp [Array.getD_eq_getD_getElem?,Array.getElem?_push,ei]
      have e2:(pn l ka va none).getD i (.top,.top)=(ka,va):=by simp [pn,List.getD,List.getElem?_append,show ¬ i < l.length from e,show i-l.length=0 by omega]
      rw [e1,e2];exact ⟨by simp,YP TX,LK hvv⟩
    ·have mi:j < es.size+1:=by simpa using hj
     have e1:(es.push { key:=act.eval k,val:=act.eval x,born:=clock }).getD i default=es.getD i default:=by
      simp [Array.getD_eq_getD_getElem?,Array.getElem?_push,show i≠es.size by omega]
     rw [e1];by_cases e:j < es.size
     ·have e2:(es.push { key:=act.eval k,val:=act.eval x,born:=clock }).getD j default=es.getD j default:=by
       simp [Array.getD_eq_getD_getElem?,Array.getElem?_push,show j≠es.size by omega]
      rw [e2];exact h5 i j H_ e
     ·have e2:(es.push { key:=act.eval k,val:=act.eval x,born:=clock }).getD j default={ key:=act.eval k,val:=act.eval x,born:=clock }:=by
       simp [Array.getD_eq_getD_getElem?,Array.getElem?_push,show j=es.size by omega]
      rw [e2];exact (h4 i (by omega)).1
  | some j=>
   obtain ⟨k2,ym,k4⟩:=SH;have hj:j < l.length:=by
    have:es.toList.length=l.length:=by simpa using h3
    omega
   have SW:j < es.size:=by omega
   have acv:((es[j]?).map (·.key)).getD (act.eval k)=(es.getD j default).key:=by simp [SW]
   have wo:∀ v,(Instr.keyThatStays (((es[j]?).map (·.key)).getD v) (act.eval k)).run P w=.ok (act.eval k) w:=fun v=>by
    have acv:((es[j]?).map (·.key)).getD v=(es.getD j default).key:=by simp [SW]
    have:=TY k4 TX (h4 j hj).2.1;rw [acv];unfold Instr.keyThatStays;rw [if_pos this];exact Sem.run_pure _ _ _
   refine fin (es.modify j fun e=>{ e with key:=act.eval k,val:=act.eval x }) clock _ ?_ ?_ out
   ·rw [zr] at ym;rcases ho with ho | ho<;>simp [execOp,ho,Instr.mapUpdate,ca ht,Ea,il po,hch,ym,wo,lW po]
   ·have gm:∀ i,i < es.size→(es.modify j fun e=>{ e with key:=act.eval k,val:=act.eval x }).getD i default=if i=j then { es.getD j default with key:=act.eval k,val:=act.eval x } else es.getD i default:=fun i hi=>by
     by_cases e:i=j
     ·subst e;simp [Array.getD_eq_getD_getElem?,hi,Array.getElem_modify]
     ·simp [Array.getD_eq_getD_getElem?,hi,Array.getElem_modify,e,Ne.symm e]
    refine ⟨_,_,rfl,fun _=>Iff.rfl,by simp [pn,h3],fun i hi=>?_,fun i i' H_ mi=>?_⟩
    ·have da:i < l.length:=by simpa [pn] using hi
     rw [gm i (by omega)];by_cases e:i=j
     ·subst e;rw [if_pos rfl];have e2:(pn l ka va (some i)).getD i (.top,.top)=(ka,va):=by simp [pn,List.getD,da]
      rw [e2];exact ⟨(h4 i da).1,YP TX,LK hvv⟩
     ·rw [if_neg e];have e2:(pn l ka va (some j)).getD i (.top,.top)=l.getD i (.top,.top):=by simp [pn,List.getD,List.getElem?_set_ne (Ne.symm e)]
      rw [e2];exact h4 i da
    ·have OG:i' < es.size:=by simpa using mi
     have born:∀ i,i < es.size→((es.modify j fun e=>{ e with key:=act.eval k,val:=act.eval x }).getD i default).born=(es.getD i default).born:=fun i hi=>by
      rw [gm i hi];split
      ·rename_i e;subst e;rfl
      ·rfl
     rw [born i (by omega),born i' OG];exact h5 i i' H_ OG
def aaP (l:List (AV×AV)):Option Nat→List (AV×AV)
 | none=>l
 | some j=>l.eraseIdx j
theorem Yx {o:Oper} {s:fG} {t u kt et:TypeId} {m k:Operand} {id:Nat} {l:List (AV×AV)} {ka:AV} {d:TypeDesc} {r:Option Nat} (ho:o.op=.call ⟨.builtin .delete,#[m,k],#[t,u]⟩) (hx:dT s m (.mp id)) (hH:s.H id=some (.map l)) (hk:dT s k ka)
  (ht:P.underlying t=some (.map kt et)) (C6:P.underlying kt=some d) (hd:A3 P kt ka=true) (hf:kV ka l 0=some r):
  dg P o s ⟨.top,[(id,some (.map (aaP l r)))],[]⟩:=by
 intro w F O μ K ft act hs _ Kn Q wu;obtain ⟨ob,po,hB⟩:=hs.hr.du id _ hH rfl;obtain ⟨es,clock,rfl,h2,h3,h4,h5⟩:=L2 hB;have hm:=hx hs;have TX:=hk hs;generalize Ea:act.eval m=x at hm;cases hm with
 | mp _ bZ=>
  have SH:=B7 (w:=w) (es:=es.toList) C6 hd TX (by simpa using h3) (fun j hj=>by rw [zr];exact (h4 j hj).2.1) hf;have hch:∀ e,(Instr.checkKey e 10000 kt (act.eval k)).run P w=.ok () w:=fun e=>EU hd TX;have gC:s.H.live id:=⟨_,hH,rfl⟩;have fin:∀ (WX:Array MapEntry) (l':List (AV×AV)),(execOp act.eval o).run P w=.ok (.value (.tuple #[])) (jA w (μ id) (.map WX clock))→hP w F μ K (fun x=>x=μ id) (μ id) (.map WX clock) (.map l')→
    (∀ (w':World) F' O' aZ bX,VR w' F' aZ K .top (.tuple #[])→HR w' F' O' aZ K (s.H.c_ [(id,some (.map l'))]) bX→Fr w F O μ K w' F' O' aZ→Kn (act.put o.dst (.tuple #[])) w')→o.wp P act w Kn Q:=by
   intro WX l' kT M4 hgo;obtain ⟨O',bX,k1,k2⟩:=lV (L:=[]) hs.hr hH rfl po (o':=.map WX clock) (by simp [sameShape]) (by simp) (fun y (hy:y=μ id)=>⟨id,.inl rfl,gC,hy▸hs.hr.self id gC⟩) rfl M4;unfold Oper.wp;rw [kT,Oper.upon_value];exact hgo _ F O' μ bX (.top _) k1 k2
  have out:∀ (w':World) F' O' aZ bX,VR w' F' aZ K .top (.tuple #[])→HR w' F' O' aZ K (s.H.c_ [(id,some (.map (aaP l r)))]) bX→Fr w F O μ K w' F' O' aZ→Kn (act.put o.dst (.tuple #[])) w':=fun w' F' O' aZ bX k1 k2 k3=>
   wu (.tuple #[]) w' F' O' aZ bX (by simp only [jm];exact k1) (by simp only [jm];exact k2) k3
  cases r with
  | none=>
   simp only at SH;have ym:=SH;refine fin es _ ?_ ⟨_,_,rfl,fun _=>Iff.rfl,h3,h4,h5⟩ out;simp [execOp,ho,resolve,invoke,builtin,Builtin.delete_,ca ht,Ea,il po,hch,ym,lW po]
  | some j=>
   obtain ⟨k2,ym,k4⟩:=SH;have hj:j < l.length:=by
    have:es.toList.length=l.length:=by simpa using h3
    omega
   have SW:j < es.size:=by omega
   refine fin (es.eraseIdxIfInBounds j) _ ?_ ?_ out
   ·rw [zr] at ym;simp [execOp,ho,resolve,invoke,builtin,Builtin.delete_,ca ht,Ea,il po,hch,ym,lW po]
   ·have e0:es.eraseIdxIfInBounds j=es.eraseIdx j SW:=by simp [Array.eraseIdxIfInBounds,SW]
    have fh:(es.eraseIdx j SW).size=es.size-1:=Array.size_eraseIdx ..;have gm:∀ i,(es.eraseIdx j SW).getD i default=if i < j then es.getD i default else es.getD (i+1) default:=fun i=>by
     simp only [Array.getD_eq_getD_getElem?,Array.getElem?_eraseIdx];split<;>rfl
    have gl:∀ i,(l.eraseIdx j).getD i (.top,.top)=if i < j then l.getD i (.top,.top) else l.getD (i+1) (.top,.top):=fun i=>by
     simp only [List.getD,List.getElem?_eraseIdx];split<;>rfl
    have hln:(l.eraseIdx j).length=l.length-1:=List.length_eraseIdx_of_lt hj;rw [e0];refine ⟨_,_,rfl,fun _=>Iff.rfl,by simp only [aaP];omega,fun i hi=>?_,fun i i' H_ mi=>?_⟩
    ·simp only [aaP] at hi ⊢;rw [gm,gl];split
     ·exact h4 i (by omega)
     ·exact h4 (i+1) (by omega)
    ·rw [gm,gm];split<;>split
     ·exact h5 i i' H_ (by omega)
     ·exact h5 i (i'+1) (by omega) (by omega)
     ·omega
     ·exact h5 (i+1) (i'+1) (by omega) (by omega)
end Go.Proofs.YtjkbbdldmdajkaaGreatDoor.c5
