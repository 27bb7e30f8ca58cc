/- Plain words and laws. No condition. -/
import Derived.Test.YtenfhlfofhjcoaaGreatDoorMw2
set_option linter.unusedSimpArgs false
set_option linter.unusedVariables false
namespace Go.Proofs.YtenfhlfofhjcoaaGreatDoor.Pu
open Go Go.RowKit Go.Proofs.YtenfhlfofhjcoaaGreatDoor.Abs Go.Proofs.YtenfhlfofhjcoaaGreatDoor.Fn
def numB (q:Option GateGrant) (g:GateGrant):Bool:=match q with
 | none=>true
 | some p=>!ile g.Number p.Number
def grant1 (b:GateBook) (q:Option GateGrant) (g:GateGrant):Bool:=(ile 1 g.Number&&ile g.Number b.Given)&&(numB q g&&(nameOk g.To&&(blankOr g.By&&ruleOk g.Rule)))
def grantsOk (b:GateBook):Bool:=ile (b.Grants.length:Int) 24&&chain (grant1 b) none b.Grants
theorem specGrants_e {k:Nat} {b:GateBook} (hk:4194304*3≤k) (hb:b.sd):spec_l5GrantsOk k b=some (grantsOk b):=by
 obtain ⟨-,-,-,-,hg,-⟩:=hb
 unfold spec_l5GrantsOk grantsOk
 have h:=loop_chain (R:=Option Bool) (x:=b.Grants) (p:=grant1 b) (B:=4194304*2) (l:=fun k i=>iter (ts:=spec_l5GrantsOk_L4_ts) (R:=Bool) k (spec_l5GrantsOk_L4 (some true)) b i) (E:=some true) (O:=some false)
  (fun k=>by simp only [iter,spec_l5GrantsOk_L4,ilt_e,cond_false]<;>rfl)
  (fun k i hi hb'=>by
   obtain ⟨-,g1,g2,g3⟩:=hg.2 _ (mem_i hi)
   simp only [iter,spec_l5GrantsOk_L4,share,ilt_n hi,inb_n hi,cond_true,req_t,nth_i hi,in_e,l1NameOk_e (show 4194304≤k by omega) g1,l1NameOk_e (show 4194304≤k by omega) g2,specRuleOk_e (show 4194304*2≤k by omega) g3,Option.bind_some,iadd_n hg.1 hi,grant1,blankOr]
   rcases Nat.eq_zero_or_pos i with rfl | h0
   ·simp only [ilt_00,ahead_0,numB]
    cases ile 1 b.Grants[0].Number&&ile b.Grants[0].Number b.Given<;>cases nameOk b.Grants[0].To<;>cases seq b.Grants[0].By []<;>cases nameOk b.Grants[0].By<;>cases ruleOk b.Grants[0].Rule<;>rfl
   ·have hi':i-1 < b.Grants.length:=by omega
    simp only [ilt_0 h0,isub_n h0 (show i≤1048576 by have:=hg.1;omega),inb_n hi',cond_true,req_t,nth_i hi',ahead_s h0 hi,numB]
    cases ile 1 b.Grants[i].Number&&ile b.Grants[i].Number b.Given<;>cases ile b.Grants[i].Number b.Grants[i-1].Number<;>cases nameOk b.Grants[i].To<;>cases seq b.Grants[i].By []<;>cases nameOk b.Grants[i].By<;>cases ruleOk b.Grants[i].Rule<;>rfl) k (by have:=hg.1;omega)
 simp only [share,ilt_not]
 cases ile (b.Grants.length:Int) 24 with
 | false=>rfl
 | true=>exact h.trans (by cases chain (grant1 b) none b.Grants<;>rfl)
theorem implGrants_e {k:Nat} {b:GateBook} (hk:4194304*3≤k) (hb:b.sd):impl_GateBook_grantsOk k b=some (grantsOk b):=by
 obtain ⟨-,-,-,-,hg,-⟩:=hb
 unfold impl_GateBook_grantsOk grantsOk
 have h:=loop_chain (R:=Option Bool) (x:=b.Grants) (p:=grant1 b) (B:=4194304*2) (l:=fun k i=>iter (ts:=impl_GateBook_grantsOk_L4_ts) (R:=Bool) k (impl_GateBook_grantsOk_L4 (some true)) b b.Grants (b.Grants.length:Int) i) (E:=some true) (O:=some false)
  (fun k=>by simp only [iter,impl_GateBook_grantsOk_L4,ilt_e,cond_false]<;>rfl)
  (fun k i hi hb'=>by
   obtain ⟨-,g1,g2,g3⟩:=hg.2 _ (mem_i hi)
   simp only [iter,impl_GateBook_grantsOk_L4,share,ilt_n hi,inb_n hi,cond_true,req_t,nth_i hi,isName_e (show 4194304≤k by omega) g1,isName_e (show 4194304≤k by omega) g2,implRuleOk_e (show 4194304*2≤k by omega) g3,Option.bind_some,iadd_n hg.1 hi,grant1,blankOr]
   rw [ilt_not b.Grants[i].Number,ilt_not b.Given]
   rcases Nat.eq_zero_or_pos i with rfl | h0
   ·simp only [ilt_00,ahead_0,numB]
    cases ile 1 b.Grants[0].Number<;>cases ile b.Grants[0].Number b.Given<;>cases nameOk b.Grants[0].To<;>cases seq b.Grants[0].By []<;>cases nameOk b.Grants[0].By<;>cases ruleOk b.Grants[0].Rule<;>rfl
   ·have hi':i-1 < b.Grants.length:=by omega
    simp only [ilt_0 h0,isub_n h0 (show i≤1048576 by have:=hg.1;omega),inb_n hi',cond_true,req_t,nth_i hi',ahead_s h0 hi,numB]
    cases ile 1 b.Grants[i].Number<;>cases ile b.Grants[i].Number b.Given<;>cases ile b.Grants[i].Number b.Grants[i-1].Number<;>cases nameOk b.Grants[i].To<;>cases seq b.Grants[i].By []<;>cases nameOk b.Grants[i].By<;>cases ruleOk b.Grants[i].Rule<;>rfl) k (by have:=hg.1;omega)
 simp only [share,ilt_not]
 cases ile (b.Grants.length:Int) 24 with
 | false=>rfl
 | true=>exact h.trans (by cases chain (grant1 b) none b.Grants<;>rfl)
def weigh1 (res:Nm) (q:GateField×Nm):Int:=cond (ieq q.1.Kind 1&&seq q.1.Weighs res) ((num q.2).getD 0) 0
theorem weigh1_range (res:Nm) (q:GateField×Nm):0≤weigh1 res q∧weigh1 res q < 10000000:=by
 unfold weigh1
 cases ieq q.1.Kind 1&&seq q.1.Weighs res with
 | false=>simp only [cond_false];exact ⟨by decide,by decide⟩
 | true=>
  cases hn:num q.2 with
  | none=>exact ⟨by decide,by decide⟩
  | some v=>exact num_range hn
def weighM (w:GateLaw) (o:GateObject) (res:Nm):Int:=cond ((fieldsM w.Shapes o).isSome&&!seq res []) ((((fieldsM w.Shapes o).getD []).zip o.Values).foldl (fun s q=>s+weigh1 res q) (cond (seq res o.Kind) 1 0)) 0
theorem fold_range {α:Type} {f:α→Int} {M:Int} (hf:∀ a,0≤f a∧f a < M):∀ (l:List α) (s:Int),0≤s→0≤l.foldl (fun s q=>s+f q) s∧l.foldl (fun s q=>s+f q) s≤s+M*(l.length:Int)
 | [],s,h=>by simp [h]
 | a::r,s,h=>by
  have:=fold_range hf r (s+f a) (by have:=hf a;omega)
  have h2:=hf a
  have e:M*((a::r).length:Int)=M*(r.length:Int)+M:=by rw [List.length_cons];push_cast;rw [Int.mul_add,Int.mul_one]
  rw [List.foldl_cons,e]
  omega
theorem weighM_range {w:GateLaw} {o:GateObject} {res:Nm} (ho:o.Values.length≤1048576):0≤weighM w o res∧weighM w o res≤10485760000001:=by
 unfold weighM
 cases (fieldsM w.Shapes o).isSome&&!seq res [] with
 | false=>simp only [cond_false];exact ⟨by decide,by decide⟩
 | true=>
  have h:=fold_range (weigh1_range res) (((fieldsM w.Shapes o).getD []).zip o.Values) (cond (seq res o.Kind) 1 0) (by cases seq res o.Kind<;>decide)
  have hl:(((fieldsM w.Shapes o).getD []).zip o.Values).length≤1048576:=by simp;omega
  have hc:(cond (seq res o.Kind) 1 0:Int)≤1:=by cases seq res o.Kind<;>decide
  simp only [cond_true]
  omega
theorem specWeighs_e {k:Nat} {w:GateLaw} {o:GateObject} {res:Nm} (hk:4194304*2≤k) (hw:w.Shapes.length≤1048576) (ho:o.Values.length≤1048576):spec_GateWeighs k w o res=some (weighM w o res):=by
 unfold spec_GateWeighs weighM
 rw [specFields_e (by omega) hw]
 simp only [Option.bind_some,share]
 cases hf:fieldsM w.Shapes o with
 | none=>rfl
 | some fs=>
  have hl:=(fieldsM_some hf).1
  have hz:=zip_len (a:=fs) (b:=o.Values) (by omega)
  simp only [Option.isSome_some,Option.getD_some,Bool.not_true,Bool.true_and,cond_false]
  cases hr:seq res [] with
  | true=>rfl
  | false=>
   have h:=fun n0:Int=>fun (h0:0≤n0∧n0≤1)=>loop_fold (S:=Int) (x:=fs.zip o.Values) (f:=fun s q=>s+weigh1 res q) (B:=4194304) (l:=fun k s i=>iter (ts:=spec_GateWeighs_L8_ts) (R:=Int) k (spec_GateWeighs_L8 fun v=>some v) res o fs s i) (J:=fun s=>some s) (fun i s=>0≤s∧s≤1+10000000*(i:Int))
    (fun k s _=>by simp only [hz,iter,spec_GateWeighs_L8,ilt_e,cond_false]<;>rfl)
    (fun k i s hi hb hI=>by
     rw [hz] at hi
     have hi':i < o.Values.length:=by omega
     have hw1:=weigh1_range res (fs[i],o.Values[i])
     refine ⟨?_,by rw [List.getElem_zip];push_cast;omega⟩
     simp only [iter,spec_GateWeighs_L8,share,ilt_n hi,inb_n hi,inb_n hi',cond_true,req_t,nth_i hi,nth_i hi',iadd_n (show fs.length≤1048576 by omega) hi,l1Number_e _ hb,Option.bind_some,List.getElem_zip,weigh1]
     cases c1:ieq fs[i].Kind 1 with
     | false=>simp only [cond_false,Bool.false_and,Int.add_zero]<;>rfl
     | true=>
      cases c2:seq fs[i].Weighs res with
      | false=>simp only [cond_false,cond_true,Bool.and_false,Int.add_zero]<;>rfl
      | true=>
       cases hn:num o.Values[i] with
       | none=>simp only [cond_true,Bool.and_self,Option.getD_none,Int.add_zero];rfl
       | some v=>
        have:=num_range hn
        simp only [cond_true,Bool.and_self,Option.getD_some]
        by_cases hv:0 < v
        ·rw [ilt_t hv,iaddn (by omega) (by omega)];rfl
        ·rw [ilt_f hv,show v=0 by omega,Int.add_zero];rfl) k n0 (by rw [hz];omega) ⟨h0.1,by push_cast;omega⟩
   cases seq res o.Kind with
   | true=>exact h 1 ⟨by decide,by decide⟩
   | false=>exact h 0 ⟨by decide,by decide⟩
theorem implWeighs_e {k:Nat} {w:GateLaw} {o:GateObject} {res:Nm} (hk:4194304*2≤k) (hw:w.Shapes.length≤1048576) (ho:o.Values.length≤1048576):impl_GateWeighs k w o res=some (weighM w o res):=by
 unfold impl_GateWeighs weighM
 rw [implFields_e (by omega) hw]
 simp only [Option.bind_some,share]
 cases hf:fieldsM w.Shapes o with
 | none=>rfl
 | some fs=>
  have hl:=(fieldsM_some hf).1
  have hz:=zip_len (a:=fs) (b:=o.Values) (by omega)
  simp only [Option.isSome_some,Option.getD_some,Bool.not_true,Bool.true_and,cond_false]
  cases hr:seq res [] with
  | true=>rfl
  | false=>
   have h:=fun n0:Int=>fun (h0:0≤n0∧n0≤1)=>loop_fold (S:=Int) (x:=fs.zip o.Values) (f:=fun s q=>s+weigh1 res q) (B:=4194304) (l:=fun k s i=>iter (ts:=impl_GateWeighs_L8_ts) (R:=Int) k (impl_GateWeighs_L8 fun v=>some v) res o s fs (fs.length:Int) i) (J:=fun s=>some s) (fun i s=>0≤s∧s≤1+10000000*(i:Int))
    (fun k s _=>by simp only [hz,iter,impl_GateWeighs_L8,ilt_e,cond_false]<;>rfl)
    (fun k i s hi hb hI=>by
     rw [hz] at hi
     have hi':i < o.Values.length:=by omega
     have hw1:=weigh1_range res (fs[i],o.Values[i])
     refine ⟨?_,by rw [List.getElem_zip];push_cast;omega⟩
     simp only [iter,impl_GateWeighs_L8,share,ilt_n hi,inb_n hi,inb_n hi',cond_true,req_t,nth_i hi,nth_i hi',iadd_n (show fs.length≤1048576 by omega) hi,decimal_e _ hb,Option.bind_some,List.getElem_zip,weigh1]
     cases c1:ieq fs[i].Kind 1 with
     | false=>simp only [cond_false,Bool.false_and,Int.add_zero,Bool.not_false,cond_true]<;>rfl
     | true=>
      cases c2:seq fs[i].Weighs res with
      | false=>simp only [cond_false,cond_true,Bool.and_false,Int.add_zero,Bool.not_false,Bool.not_true]<;>rfl
      | true=>
       cases hn:num o.Values[i] with
       | none=>
        have e0:s+0=iadd .i64 s 0:=(iaddn (by omega) (by omega)).symm
        simp only [cond_true,Bool.and_self,Option.getD_none,e0]<;>rfl
       | some v=>
        have:=num_range hn
        have e0:s+v=iadd .i64 s v:=(iaddn (by omega) (by omega)).symm
        simp only [cond_true,Bool.and_self,Option.getD_some,e0]<;>rfl) k n0 (by rw [hz];omega) ⟨h0.1,by push_cast;omega⟩
   cases seq res o.Kind with
   | true=>exact h 1 ⟨by decide,by decide⟩
   | false=>exact h 0 ⟨by decide,by decide⟩
def use1 (w:GateLaw) (team res:Nm) (o:GateObject):Int:=cond (underN w.Teams 4 o.Team team) (weighM w o res) 0
def usedM (w:GateLaw) (b:GateBook) (team res:Nm):Int:=b.Objects.foldl (fun s o=>s+use1 w team res o) 0
theorem specUsed_e {k:Nat} {w:GateLaw} {b:GateBook} {team res:Nm} (hk:4194304*3≤k) (hw:w.sd) (hb:b.sd) (hl:b.Objects.length≤40):spec_GateUsed k w b team res=some (usedM w b team res):=by
 obtain ⟨-,-,-,hos,-⟩:=hb
 unfold spec_GateUsed usedM
 simp only [share]
 exact loop_fold (S:=Int) (x:=b.Objects) (f:=fun s o=>s+use1 w team res o) (B:=4194304*2) (l:=fun k s i=>iter (ts:=spec_GateUsed_L3_ts) (R:=Int) k (spec_GateUsed_L3 fun v=>some v) team res w b s i) (J:=fun s=>some s) (fun i s=>0≤s∧s≤10485760000001*(i:Int))
  (fun k s _=>by simp only [iter,spec_GateUsed_L3,ilt_e,cond_false]<;>rfl)
  (fun k i s hi hb hI=>by
   have hv:=(hos.2 _ (mem_i hi)).2.2.2.1.1
   have hr:=weighM_range (w:=w) (res:=res) hv
   simp only [iter,spec_GateUsed_L3,share,ilt_n hi,inb_n hi,cond_true,req_t,nth_i hi,iadd_n hos.1 hi,specUnder_e hb hw.2.2.1,specWeighs_e hb hw.1.1 hv,Option.bind_some,use1]
   cases underN w.Teams 4 b.Objects[i].Team team with
   | false=>exact ⟨by simp only [cond_false,Int.add_zero]<;>rfl,by simp only [cond_false];push_cast;omega⟩
   | true=>
    have e0:s+weighM w b.Objects[i] res=iadd .i64 s (weighM w b.Objects[i] res):=(iaddn (by omega) (by omega)).symm
    exact ⟨by simp only [cond_true,e0]<;>rfl,by simp only [cond_true];push_cast;omega⟩) k 0 (by omega) (by simp)
theorem implUsed_e {k:Nat} {w:GateLaw} {b:GateBook} {team res:Nm} (hk:4194304*3≤k) (hw:w.sd) (hb:b.sd) (hl:b.Objects.length≤40):impl_GateUsed k w b team res=some (usedM w b team res):=by
 obtain ⟨-,-,-,hos,-⟩:=hb
 unfold impl_GateUsed usedM
 simp only [share]
 exact loop_fold (S:=Int) (x:=b.Objects) (f:=fun s o=>s+use1 w team res o) (B:=4194304*2) (l:=fun k s i=>iter (ts:=impl_GateUsed_L3_ts) (R:=Int) k (impl_GateUsed_L3 fun v=>some v) team res w s b.Objects (b.Objects.length:Int) i) (J:=fun s=>some s) (fun i s=>0≤s∧s≤10485760000001*(i:Int))
  (fun k s _=>by simp only [iter,impl_GateUsed_L3,ilt_e,cond_false]<;>rfl)
  (fun k i s hi hb hI=>by
   have hv:=(hos.2 _ (mem_i hi)).2.2.2.1.1
   have hr:=weighM_range (w:=w) (res:=res) hv
   simp only [iter,impl_GateUsed_L3,share,ilt_n hi,inb_n hi,cond_true,req_t,nth_i hi,iadd_n hos.1 hi,implUnder_e hb hw.2.2.1,implWeighs_e hb hw.1.1 hv,Option.bind_some,use1]
   cases underN w.Teams 4 b.Objects[i].Team team with
   | false=>exact ⟨by simp only [cond_false,Int.add_zero]<;>rfl,by simp only [cond_false];push_cast;omega⟩
   | true=>
    have e0:s+weighM w b.Objects[i] res=iadd .i64 s (weighM w b.Objects[i] res):=(iaddn (by omega) (by omega)).symm
    exact ⟨by simp only [cond_true,e0]<;>rfl,by simp only [cond_true];push_cast;omega⟩) k 0 (by omega) (by simp)
theorem usedM_range {w:GateLaw} {b:GateBook} {team res:Nm} (hb:b.sd) (hl:b.Objects.length≤40):0≤usedM w b team res∧usedM w b team res≤419430400000040:=by
 obtain ⟨-,-,-,hos,-⟩:=hb
 unfold usedM
 have:∀ (l:List GateObject) (s:Int),(∀ o,o∈l→o.Values.length≤1048576)→0≤s→0≤l.foldl (fun s o=>s+use1 w team res o) s∧l.foldl (fun s o=>s+use1 w team res o) s≤s+10485760000001*(l.length:Int):=by
  intro l
  induction l with
  | nil=>intro s _ h;simp [h]
  | cons a r ih=>
   intro s h h0
   have hr:=weighM_range (w:=w) (res:=res) (h a (by simp))
   have hu:0≤use1 w team res a∧use1 w team res a≤10485760000001:=by
    unfold use1
    cases underN w.Teams 4 a.Team team with
    | false=>simp only [cond_false];exact ⟨by decide,by decide⟩
    | true=>exact hr
   have:=ih (s+use1 w team res a) (fun o ho=>h o (by simp [ho])) (by omega)
   rw [List.foldl_cons,List.length_cons]
   push_cast
   omega
 have h:=this b.Objects 0 (fun o ho=>(hos.2 o ho).2.2.2.1.1) (by decide)
 omega
section
variable {α R S:Type} {x:List α} {B:Nat}
theorem loop_chainS {p:Option α→α→Bool} {f:S→α→S} {l:Nat→S→Int→R} {E:S→R} {O:R} (he:∀ k s,l (k+1) s (x.length:Int)=E s)
  (h:∀ k i s (hi:i < x.length),B≤k→l (k+1) s (i:Int)=cond (p (ahead x i) x[i]) (l k (f s x[i]) ((i+1:Nat):Int)) O) (k:Nat) (s:S) (hk:B+x.length+1≤k):l k s 0=cond (chain p none x) (E (x.foldl f s)) O:=by
 have go:∀ m i k s,i+m=x.length→B+m+1≤k→l k s (i:Int)=cond (chain p (ahead x i) (x.drop i)) (E ((x.drop i).foldl f s)) O:=by
  intro m
  induction m with
  | zero=>
   intro i k s h1 h2
   obtain rfl:i=x.length:=by omega
   obtain ⟨k,rfl⟩:∃ j,k=j+1:=⟨k-1,by omega⟩
   simp [he,chain]
  | succ m ih=>
   intro i k s h1 h2
   obtain ⟨k,rfl⟩:∃ j,k=j+1:=⟨k-1,by omega⟩
   have hi:i < x.length:=by omega
   rw [h k i s hi (by omega),List.drop_eq_getElem_cons hi]
   have e:some x[i]=ahead x (i+1):=by simp [ahead]
   simp only [chain,e,List.foldl_cons]
   cases p (ahead x i) x[i] with
   | true=>simpa using ih (i+1) k _ (by omega) (by omega)
   | false=>rfl
 have:=go x.length 0 k s (by omega) (by omega)
 simpa [ahead] using this
end
def eqA (a b:Account):Bool:=seq a.team b.team&&seq a.resource b.resource
theorem eqA_iff {a b:Account}:eqA a b=true↔a=b:=by
 cases a;cases b
 simp only [eqA,Bool.and_eq_true,seq_iff,Account.mk.injEq]
theorem eqA_comm (a b:Account):eqA a b=eqA b a:=by
 rw [Bool.eq_iff_iff,eqA_iff,eqA_iff];exact eq_comm
def getA (a:Account) (m:List Pair2):Int:=mget (fun p:Pair2=>eqA a p.Key) (fun p:Pair2=>p.Val) (0:Int) m
def putA (a:Account) (v:Int) (m:List Pair2):List Pair2:=mput (fun p:Pair2=>eqA a p.Key) m ⟨a,v⟩
theorem getA_put (a c:Account) (v:Int):∀ (m:List Pair2),getA a (putA c v m)=cond (eqA a c) v (getA a m)
 | []=>by
  unfold getA putA
  rw [mput_nil,mget_cons]
 | q::m=>by
  unfold getA putA
  rw [mput_cons]
  cases h:eqA c q.Key with
  | true=>
   have e:=eqA_iff.1 h
   rw [cond_true,mget_cons,mget_cons,← e]
   cases eqA a c<;>rfl
  | false=>
   rw [cond_false,mget_cons,mget_cons]
   have ih:=getA_put a c v m
   unfold getA putA at ih
   rw [ih]
   cases h1:eqA a q.Key with
   | false=>rfl
   | true=>
    have e:=eqA_iff.1 h1
    subst e
    rw [show eqA q.Key c=false by rw [eqA_comm];exact h];rfl
def keyL (g:GateLedger):Account:=⟨g.Team,g.Resource⟩
def ledB (q:Option GateLedger) (g:GateLedger):Bool:=match q with
 | none=>true
 | some p=>twoLt p.Team p.Resource g.Team g.Resource
def led0 (w:GateLaw) (g:GateLedger):Bool:=(teamN w.Teams g.Team).isSome&&(nameOk g.Resource&&(ile 0 g.Free&&(ile g.Free g.Most&&ile g.Most 1000000)))
def led1 (w:GateLaw) (q:Option GateLedger) (g:GateLedger):Bool:=led0 w g&&ledB q g
theorem twoLt_tr {a b c d e f:Nm} (h1:twoLt a b c d=true) (h2:twoLt c d e f=true):twoLt a b e f=true:=by
 simp only [twoLt,Bool.or_eq_true,Bool.and_eq_true] at *
 rcases h1 with h1 | ⟨h1,h3⟩
 ·rcases h2 with h2 | ⟨h2,-⟩
  ·exact .inl (slt_tr h1 h2)
  ·rw [← seq_iff.1 h2];exact .inl h1
 ·rw [seq_iff.1 h1]
  rcases h2 with h2 | ⟨h2,h4⟩
  ·exact .inl h2
  ·exact .inr ⟨h2,slt_tr h3 h4⟩
theorem twoLt_irr (a b:Nm):twoLt a b a b=false:=by
 simp only [twoLt,slt_irr,Bool.and_false,Bool.or_false]
theorem chain_led:∀ {l:List GateLedger} {q:Option GateLedger},chain ledB q l=true→(l.map keyL).Nodup∧∀ p,q=some p→∀ y,y∈l→twoLt p.Team p.Resource y.Team y.Resource=true
 | [],_,_=>⟨List.nodup_nil,fun _ _ _ h=>by cases h⟩
 | a::r,q,h=>by
  simp only [chain,Bool.and_eq_true] at h
  obtain ⟨h1,h2⟩:=h
  obtain ⟨h3,h4⟩:=chain_led h2
  refine ⟨List.nodup_cons.2 ⟨fun hm=>?_,h3⟩,fun p hp y hy=>?_⟩
  ·obtain ⟨y,hy,e⟩:=List.mem_map.1 hm
   have:=h4 a rfl y hy
   simp only [keyL,Account.mk.injEq] at e
   rw [e.1,e.2,twoLt_irr] at this;cases this
  ·subst hp
   rcases List.mem_cons.1 hy with e | e
   ·exact e▸h1
   ·exact twoLt_tr h1 (h4 a rfl y e)
def ledO (b:GateBook) (team res:Nm):Int:=gidx (fun g=>seq g.Team team&&seq g.Resource res) b.Ledgers 0
theorem l5Ledger_e {k:Nat} {b:GateBook} {team res:Nm} (hk:4194304≤k) (hb:b.Ledgers.length≤1048576):spec_l5Ledger k b team res=some (ledO b team res):=by
 unfold spec_l5Ledger
 simp only [share]
 exact loop_gidx (x:=b.Ledgers) (p:=fun g=>seq g.Team team&&seq g.Resource res) (l:=fun k i=>iter (ts:=spec_l5Ledger_L2_ts) (R:=Int) k (spec_l5Ledger_L2 (some (-1))) team res b i)
  (fun k=>by simp only [iter,spec_l5Ledger_L2,ilt_e,cond_false]<;>rfl)
  (fun k i hi=>by
   simp only [iter,spec_l5Ledger_L2,share,ilt_n hi,inb_n hi,cond_true,req_t,nth_i hi,iadd_n hb hi]
   cases seq b.Ledgers[i].Team team<;>rfl) k (by omega)
theorem ledger_e {k:Nat} {b:GateBook} {team res:Nm} (hk:4194304≤k) (hb:b.Ledgers.length≤1048576):impl_GateBook_ledger k b team res=some (ledO b team res):=by
 unfold impl_GateBook_ledger
 simp only [share]
 exact loop_gidx (x:=b.Ledgers) (p:=fun g=>seq g.Team team&&seq g.Resource res) (l:=fun k i=>iter (ts:=impl_GateBook_ledger_L2_ts) (R:=Int) k (impl_GateBook_ledger_L2 (some (-1))) team res b.Ledgers (b.Ledgers.length:Int) i)
  (fun k=>by simp only [iter,impl_GateBook_ledger_L2,ilt_e,cond_false]<;>rfl)
  (fun k i hi=>by
   simp only [iter,impl_GateBook_ledger_L2,share,ilt_n hi,inb_n hi,cond_true,req_t,nth_i hi,iadd_n hb hi]
   cases seq b.Ledgers[i].Team team<;>rfl) k (by omega)
def purP (z p:GatePurse):Bool:=cond (!seq z.Door p.Door) (slt z.Door p.Door) (twoLt z.Team z.Resource p.Team p.Resource)
def purB (q:Option GatePurse) (p:GatePurse):Bool:=match q with
 | none=>true
 | some z=>purP z p
def pur0 (b:GateBook) (p:GatePurse):Bool:=nameOk p.Door&&(!ilt (ledO b p.Team p.Resource) 0&&((ile 1 p.Amount&&ile p.Amount 1000000)&&(ile b.Tick p.Until&&ile p.Until (iadd .i64 b.Tick 10))))
def pur1 (b:GateBook) (q:Option GatePurse) (p:GatePurse):Bool:=pur0 b p&&purB q p
theorem purseKey_e (k:Nat) (a b:GatePurse):∃ v,spec_l5PurseKey k a b=some v∧ile 0 v=!purP a b:=by
 unfold spec_l5PurseKey purP
 cases h:seq a.Door b.Door with
 | true=>exact ⟨_,by simp only [Bool.not_true,cond_false,l5Two_e];rfl,two5_lt ..⟩
 | false=>
  refine ⟨_,by simp only [Bool.not_false,cond_true,l5Key_e];rfl,?_⟩
  unfold key5
  rw [h]
  cases slt a.Door b.Door<;>rfl
theorem purseBefore_e (k:Nat) (a b:GatePurse):impl_purseBefore k a b=some (purP a b):=by
 unfold impl_purseBefore purP twoLt
 cases seq a.Door b.Door with
 | false=>rfl
 | true=>
  cases h:seq a.Team b.Team with
  | false=>simp
  | true=>rw [slt_seq h];rfl
def out1 (a:Account) (p:GatePurse):Int:=cond (eqA a ⟨p.Team,p.Resource⟩) p.Amount 0
def outM (b:GateBook) (a:Account):Int:=b.Purses.foldl (fun s p=>s+out1 a p) 0
def goodP (b:GateBook):Prop:=∀ p,p∈b.Purses→1≤p.Amount∧p.Amount≤1000000
theorem chain_pur {b:GateBook}:∀ {l:List GatePurse} {q:Option GatePurse},chain (pur1 b) q l=true→∀ p,p∈l→1≤p.Amount∧p.Amount≤1000000
 | [],_,_,_,h=>by cases h
 | a::r,q,h,p,hp=>by
  simp only [chain,Bool.and_eq_true] at h
  rcases List.mem_cons.1 hp with e | e
  ·subst e
   simp only [pur1,pur0,Bool.and_eq_true] at h
   obtain ⟨⟨⟨-,-,⟨h1,h2⟩,-⟩,-⟩,-⟩:=h
   exact ⟨ile_le h1,ile_le h2⟩
  ·exact chain_pur h.2 p e
theorem out_fold {a:Account}:∀ (l:List GatePurse) (s:Int),(∀ p,p∈l→1≤p.Amount∧p.Amount≤1000000)→l.foldl (fun s p=>s+out1 a p) s=s+l.foldl (fun s p=>s+out1 a p) 0∧0≤l.foldl (fun s p=>s+out1 a p) 0∧l.foldl (fun s p=>s+out1 a p) 0≤1000000*(l.length:Int)
 | [],s,_=>by simp
 | p::r,s,h=>by
  have h1:0≤out1 a p∧out1 a p≤1000000:=by
   have:=h p (by simp)
   unfold out1
   cases eqA a ⟨p.Team,p.Resource⟩ with
   | true=>simp only [cond_true];omega
   | false=>simp only [cond_false];omega
  have ih1:=out_fold (a:=a) r (s+out1 a p) (fun q hq=>h q (by simp [hq]))
  have ih2:=out_fold (a:=a) r (0+out1 a p) (fun q hq=>h q (by simp [hq]))
  rw [List.foldl_cons,List.foldl_cons,List.length_cons]
  push_cast
  omega
theorem specOut_e {k:Nat} {b:GateBook} {team res:Nm} (hk:4194304≤k) (hl:b.Purses.length≤1048576) (hg:goodP b):spec_l5Out k b team res=some (outM b ⟨team,res⟩):=by
 unfold spec_l5Out outM
 simp only [share]
 exact loop_fold (S:=Int) (x:=b.Purses) (f:=fun s p=>s+out1 ⟨team,res⟩ p) (B:=0) (l:=fun k s i=>iter (ts:=spec_l5Out_L3_ts) (R:=Int) k (spec_l5Out_L3 fun v=>some v) team res b s i) (J:=fun s=>some s) (fun i s=>0≤s∧s≤1000000*(i:Int))
  (fun k s _=>by simp only [iter,spec_l5Out_L3,ilt_e,cond_false]<;>rfl)
  (fun k i s hi hb hI=>by
   have hv:=hg _ (mem_i hi)
   have e0:s+b.Purses[i].Amount=iadd .i64 s b.Purses[i].Amount:=(iaddn (by omega) (by omega)).symm
   simp only [iter,spec_l5Out_L3,share,ilt_n hi,inb_n hi,cond_true,req_t,nth_i hi,iadd_n hl hi,out1,eqA]
   rw [seq_comm team,seq_comm res]
   cases seq b.Purses[i].Team team with
   | false=>exact ⟨by simp only [cond_false,Bool.false_and,Int.add_zero]<;>rfl,by simp only [cond_false,Bool.false_and];push_cast;omega⟩
   | true=>
    cases seq b.Purses[i].Resource res with
    | false=>exact ⟨by simp only [cond_false,Bool.and_false,Int.add_zero]<;>rfl,by simp only [cond_false,Bool.and_false];push_cast;omega⟩
    | true=>exact ⟨by simp only [cond_true,Bool.and_self,e0]<;>rfl,by simp only [cond_true,Bool.and_self];push_cast;omega⟩) k 0 (by omega) (by simp)
def sumL (w:GateLaw) (b:GateBook) (g:GateLedger):Bool:=ieq (usedM w b g.Team g.Resource+outM b (keyL g)+g.Free) g.Most
def sumsOk (w:GateLaw) (b:GateBook):Bool:=(ile (b.Ledgers.length:Int) 10&&ile (b.Purses.length:Int) 24)&&(chain (pur1 b) none b.Purses&&(chain (led1 w) none b.Ledgers&&b.Ledgers.all (sumL w b)))
theorem specLedgers_l {w:GateLaw} {b:GateBook} {k:Nat} (hk:4194304*5≤k) (hw:w.sd) (hb:b.sd) (hl:b.Objects.length≤40) (hg:goodP b):
  iter (ts:=spec_l5SumsOk_L10_ts) (R:=Bool) k (spec_l5SumsOk_L10 (some true)) w b (0:Int)=some (chain (led1 w) none b.Ledgers&&b.Ledgers.all (sumL w b)):=by
 have hb':=hb
 obtain ⟨-,-,-,-,-,hle,hpu⟩:=hb
 have h:=loop_chain (R:=Option Bool) (x:=b.Ledgers) (p:=fun q g=>led1 w q g&&sumL w b g) (B:=4194304*3) (l:=fun k i=>iter (ts:=spec_l5SumsOk_L10_ts) (R:=Bool) k (spec_l5SumsOk_L10 (some true)) w b i) (E:=some true) (O:=some false)
  (fun k=>by simp only [iter,spec_l5SumsOk_L10,ilt_e,cond_false]<;>rfl)
  (fun k i hi hbk=>by
   have hgi:=hle.2 _ (mem_i hi)
   simp only [iter,spec_l5SumsOk_L10,share,ilt_n hi,inb_n hi,cond_true,req_t,nth_i hi,l4Team_e (show 4194304≤k by omega) hw.2.2.1,l1NameOk_e (show 4194304≤k by omega) hgi.2.1,specUsed_e (team:=b.Ledgers[i].Team) (res:=b.Ledgers[i].Resource) hbk hw hb' hl,specOut_e (team:=b.Ledgers[i].Team) (res:=b.Ledgers[i].Resource) (show 4194304≤k by omega) hpu.1 hg,Option.bind_some,iadd_n hle.1 hi,led1,led0,ilt_not,sumL,keyL]
   have hu:=usedM_range (w:=w) (team:=b.Ledgers[i].Team) (res:=b.Ledgers[i].Resource) hb' hl
   have ho:=(out_fold (a:=⟨b.Ledgers[i].Team,b.Ledgers[i].Resource⟩) b.Purses 0 hg).2
   have ho':0≤outM b ⟨b.Ledgers[i].Team,b.Ledgers[i].Resource⟩∧outM b ⟨b.Ledgers[i].Team,b.Ledgers[i].Resource⟩≤1000000*(b.Purses.length:Int):=ho
   have hpl:=hpu.1
   cases (teamN w.Teams b.Ledgers[i].Team).isSome with
   | false=>rfl
   | true=>
    cases nameOk b.Ledgers[i].Resource with
    | false=>rfl
    | true=>
     cases f1:ile 0 b.Ledgers[i].Free with
     | false=>rfl
     | true=>
      cases f2:ile b.Ledgers[i].Free b.Ledgers[i].Most with
      | false=>rfl
      | true=>
       cases f3:ile b.Ledgers[i].Most 1000000 with
       | false=>rfl
       | true=>
        have f1':=ile_le f1
        have f2':=ile_le f2
        have f3':=ile_le f3
        rw [iaddn (m:=usedM w b b.Ledgers[i].Team b.Ledgers[i].Resource) (by omega) (by omega),iaddn (by omega) (by omega)]
        rcases Nat.eq_zero_or_pos i with rfl | h0
        ·simp only [Bool.not_true,cond_false,ile_t (show (((0:Nat):Int))≤0 by omega),ahead_0,ledB,Bool.and_self,Bool.true_and]
         cases ieq (usedM w b b.Ledgers[0].Team b.Ledgers[0].Resource+outM b ⟨b.Ledgers[0].Team,b.Ledgers[0].Resource⟩+b.Ledgers[0].Free) b.Ledgers[0].Most<;>rfl
        ·have hi':i-1 < b.Ledgers.length:=by omega
         simp only [Bool.not_true,Bool.not_false,cond_true,cond_false,ile_f (show ¬ ((i:Int))≤0 by omega),isub_n h0 (show i≤1048576 by have:=hle.1;omega),inb_n hi',req_t,nth_i hi',ahead_s h0 hi,ledB,l5Two_e,Option.bind_some,two5_lt,Bool.and_self,Bool.true_and]
         cases twoLt b.Ledgers[i-1].Team b.Ledgers[i-1].Resource b.Ledgers[i].Team b.Ledgers[i].Resource<;>cases ieq (usedM w b b.Ledgers[i].Team b.Ledgers[i].Resource+outM b ⟨b.Ledgers[i].Team,b.Ledgers[i].Resource⟩+b.Ledgers[i].Free) b.Ledgers[i].Most<;>rfl) k (by have:=hle.1;omega)
 rw [chain_and,chain_all] at h
 exact h.trans (by cases chain (led1 w) none b.Ledgers&&b.Ledgers.all (sumL w b)<;>rfl)
theorem specSums_e {k:Nat} {w:GateLaw} {b:GateBook} (hk:4194304*5≤k) (hw:w.sd) (hb:b.sd) (hl:b.Objects.length≤40):spec_l5SumsOk k w b=some (sumsOk w b):=by
 have hb':=hb
 obtain ⟨-,-,-,-,-,hle,hpu⟩:=hb
 unfold spec_l5SumsOk sumsOk
 have h:=fun J:GateLaw→GateBook→Option Bool=>loop_chain (R:=Option Bool) (x:=b.Purses) (p:=pur1 b) (B:=4194304*2) (l:=fun k i=>iter (ts:=spec_l5SumsOk_L4_ts) (R:=Bool) k (spec_l5SumsOk_L4 J) w b i) (E:=J w b) (O:=some false)
  (fun k=>by simp only [iter,spec_l5SumsOk_L4,ilt_e,cond_false]<;>rfl)
  (fun k i hi hbk=>by
   have hpi:=hpu.2 _ (mem_i hi)
   simp only [iter,spec_l5SumsOk_L4,share,ilt_n hi,inb_n hi,cond_true,req_t,nth_i hi,l1NameOk_e (show 4194304≤k by omega) hpi.1,l5Ledger_e (show 4194304≤k by omega) hle.1,in_e,Option.bind_some,iadd_n hpu.1 hi,pur1,pur0]
   rcases Nat.eq_zero_or_pos i with rfl | h0
   ·simp only [ilt_00,ahead_0,purB]
    cases nameOk b.Purses[0].Door<;>cases ilt (ledO b b.Purses[0].Team b.Purses[0].Resource) 0<;>cases ile 1 b.Purses[0].Amount&&ile b.Purses[0].Amount 1000000<;>cases ile b.Tick b.Purses[0].Until&&ile b.Purses[0].Until (iadd .i64 b.Tick 10)<;>rfl
   ·have hi':i-1 < b.Purses.length:=by omega
    obtain ⟨v,v1,v2⟩:=purseKey_e k b.Purses[i-1] b.Purses[i]
    simp only [ilt_0 h0,isub_n h0 (show i≤1048576 by have:=hpu.1;omega),inb_n hi',cond_true,req_t,nth_i hi',ahead_s h0 hi,v1,v2,Option.bind_some,purB]
    cases nameOk b.Purses[i].Door<;>cases ilt (ledO b b.Purses[i].Team b.Purses[i].Resource) 0<;>cases ile 1 b.Purses[i].Amount&&ile b.Purses[i].Amount 1000000<;>cases ile b.Tick b.Purses[i].Until&&ile b.Purses[i].Until (iadd .i64 b.Tick 10)<;>cases purP b.Purses[i-1] b.Purses[i]<;>rfl) k (by have:=hpu.1;omega)
 simp only [share,ilt_not]
 cases ile (b.Ledgers.length:Int) 10 with
 | false=>rfl
 | true=>
  cases ile (b.Purses.length:Int) 24 with
  | false=>rfl
  | true=>
   refine (h _).trans ?_
   cases hc:chain (pur1 b) none b.Purses with
   | false=>rfl
   | true=>exact (specLedgers_l hk hw hb' hl fun p hp=>chain_pur hc p hp).trans rfl
theorem all_ext {α:Type} {p q:α→Bool}:∀ {l:List α},(∀ a,a∈l→p a=q a)→l.all p=l.all q
 | [],_=>rfl
 | a::r,h=>by rw [List.all_cons,List.all_cons,h a (by simp),all_ext (l:=r) fun b hb=>h b (by simp [hb])]
def mLed (w:GateLaw) (b:GateBook) (m:List Pair2) (g:GateLedger):List Pair2:=putA (keyL g) (iadd .i64 g.Free (usedM w b g.Team g.Resource)) m
def keyP (p:GatePurse):Account:=⟨p.Team,p.Resource⟩
def mPur (m:List Pair2) (p:GatePurse):List Pair2:=putA (keyP p) (iadd .i64 (getA (keyP p) m) p.Amount) m
theorem eqA_ne {a b:Account} (h:a≠b):eqA a b=false:=by
 cases e:eqA a b with
 | false=>rfl
 | true=>exact absurd (eqA_iff.1 e) h
theorem eqA_self (a:Account):eqA a a=true:=eqA_iff.2 rfl
theorem mLed_other {w:GateLaw} {b:GateBook} {a:Account}:∀ (l:List GateLedger) (m:List Pair2),(∀ g,g∈l→a≠keyL g)→getA a (l.foldl (mLed w b) m)=getA a m
 | [],_,_=>rfl
 | g::r,m,h=>by
  rw [List.foldl_cons,mLed_other r _ fun x hx=>h x (by simp [hx])]
  unfold mLed
  rw [getA_put,eqA_ne (h g (by simp))];rfl
theorem mLed_get {w:GateLaw} {b:GateBook}:∀ (l:List GateLedger) (m:List Pair2),(l.map keyL).Nodup→∀ g,g∈l→getA (keyL g) (l.foldl (mLed w b) m)=iadd .i64 g.Free (usedM w b g.Team g.Resource)
 | [],_,_,_,h=>by cases h
 | g::r,m,hn,x,hx=>by
  simp only [List.map_cons,List.nodup_cons] at hn
  rw [List.foldl_cons]
  rcases List.mem_cons.1 hx with e | e
  ·subst e
   rw [mLed_other r _ fun y hy e=>hn.1 (by rw [e];exact List.mem_map_of_mem hy)]
   unfold mLed
   rw [getA_put,eqA_self];rfl
  ·exact mLed_get r _ hn.2 x e
theorem mPur_get {a:Account}:∀ (l:List GatePurse) (m:List Pair2),(∀ p,p∈l→1≤p.Amount∧p.Amount≤1000000)→0≤getA a m→getA a m+1000000*(l.length:Int)≤9223372036854775807→getA a (l.foldl mPur m)=getA a m+l.foldl (fun s p=>s+out1 a p) 0
 | [],m,_,_,_=>by simp
 | p::r,m,h,h0,h1=>by
  have hp:=h p (by simp)
  have hr:∀ q,q∈r→1≤q.Amount∧q.Amount≤1000000:=fun q hq=>h q (by simp [hq])
  rw [List.length_cons] at h1
  push_cast at h1
  have hg:getA a (mPur m p)=getA a m+out1 a p:=by
   unfold mPur out1
   rw [getA_put]
   have ek:(⟨p.Team,p.Resource⟩:Account)=keyP p:=rfl
   rw [ek]
   cases e:eqA a (keyP p) with
   | false=>simp only [cond_false,Int.add_zero]
   | true=>
    simp only [cond_true]
    rw [← eqA_iff.1 e,iaddn (by omega) (by omega)]
  have ho:0≤out1 a p∧out1 a p≤1000000:=by
   unfold out1
   cases eqA a ⟨p.Team,p.Resource⟩ with
   | true=>simp only [cond_true];omega
   | false=>simp only [cond_false];omega
  rw [List.foldl_cons,mPur_get r (mPur m p) hr (by omega) (by omega),hg,List.foldl_cons,(out_fold (a:=a) r (0+out1 a p) hr).1]
  omega
theorem implSums_e {k:Nat} {w:GateLaw} {b:GateBook} (hk:4194304*5≤k) (hw:w.sd) (hb:b.sd) (hl:b.Objects.length≤40):impl_GateBook_sumsOk k b w=some (sumsOk w b):=by
 have hb':=hb
 obtain ⟨-,-,-,-,-,hle,hpu⟩:=hb
 unfold impl_GateBook_sumsOk sumsOk
 have h5:=fun J:GateBook→List Pair2→Option Bool=>loop_chainS (R:=Option Bool) (x:=b.Ledgers) (p:=led1 w) (f:=mLed w b) (B:=4194304*3) (l:=fun k m i=>iter (ts:=impl_GateBook_sumsOk_L5_ts) (R:=Bool) k (impl_GateBook_sumsOk_L5 J) b w b.Ledgers (b.Ledgers.length:Int) i m) (E:=fun m=>J b m) (O:=some false)
  (fun k m=>by simp only [iter,impl_GateBook_sumsOk_L5,ilt_e,cond_false]<;>rfl)
  (fun k i m hi hbk=>by
   have hgi:=hle.2 _ (mem_i hi)
   simp only [iter,impl_GateBook_sumsOk_L5,share,ilt_n hi,inb_n hi,cond_true,req_t,nth_i hi,teamOf_e (show 4194304≤k by omega) hw.2.2.1,team_gidx,isName_e (show 4194304≤k by omega) hgi.2.1,implUsed_e (team:=b.Ledgers[i].Team) (res:=b.Ledgers[i].Resource) hbk hw hb' hl,Option.bind_some,led1,led0]
   rw [iadd_n hle.1 hi,ilt_not b.Ledgers[i].Free,ilt_not b.Ledgers[i].Most,ilt_not 1000000]
   rcases Nat.eq_zero_or_pos i with rfl | h0
   ·simp only [ilt_00,ahead_0,ledB]
    cases (teamN w.Teams b.Ledgers[0].Team).isSome<;>cases nameOk b.Ledgers[0].Resource<;>cases ile 0 b.Ledgers[0].Free<;>cases ile b.Ledgers[0].Free b.Ledgers[0].Most<;>cases ile b.Ledgers[0].Most 1000000<;>rfl
   ·have hi':i-1 < b.Ledgers.length:=by omega
    simp only [ilt_0 h0,isub_n h0 (show i≤1048576 by have:=hle.1;omega),inb_n hi',cond_true,req_t,nth_i hi',ahead_s h0 hi,ledB,twoLt]
    cases h1:seq b.Ledgers[i-1].Team b.Ledgers[i].Team with
    | true=>
     rw [slt_seq h1]
     cases slt b.Ledgers[i-1].Resource b.Ledgers[i].Resource<;>cases (teamN w.Teams b.Ledgers[i].Team).isSome<;>cases nameOk b.Ledgers[i].Resource<;>cases ile 0 b.Ledgers[i].Free<;>cases ile b.Ledgers[i].Free b.Ledgers[i].Most<;>cases ile b.Ledgers[i].Most 1000000<;>rfl
    | false=>
     cases slt b.Ledgers[i-1].Team b.Ledgers[i].Team<;>cases (teamN w.Teams b.Ledgers[i].Team).isSome<;>cases nameOk b.Ledgers[i].Resource<;>cases ile 0 b.Ledgers[i].Free<;>cases ile b.Ledgers[i].Free b.Ledgers[i].Most<;>cases ile b.Ledgers[i].Most 1000000<;>rfl) k [] (by have:=hle.1;omega)
 have h16:=fun (J:GateBook→List Pair2→Option Bool) (m:List Pair2)=>loop_chainS (R:=Option Bool) (x:=b.Purses) (p:=pur1 b) (f:=mPur) (B:=4194304*2) (l:=fun k m i=>iter (ts:=impl_GateBook_sumsOk_L16_ts) (R:=Bool) k (impl_GateBook_sumsOk_L16 J) b b.Purses (b.Purses.length:Int) i m) (E:=fun m=>J b m) (O:=some false)
  (fun k m=>by simp only [iter,impl_GateBook_sumsOk_L16,ilt_e,cond_false]<;>rfl)
  (fun k i m hi hbk=>by
   have hpi:=hpu.2 _ (mem_i hi)
   simp only [iter,impl_GateBook_sumsOk_L16,share,ilt_n hi,inb_n hi,cond_true,req_t,nth_i hi,ledger_e (show 4194304≤k by omega) hle.1,isName_e (show 4194304≤k by omega) hpi.1,purseBefore_e,Option.bind_some,pur1,pur0]
   rw [iadd_n hpu.1 hi,ilt_not b.Purses[i].Amount,ilt_not 1000000,ilt_not b.Purses[i].Until,ilt_not (iadd .i64 b.Tick 10)]
   rcases Nat.eq_zero_or_pos i with rfl | h0
   ·simp only [ilt_00,ahead_0,purB]
    cases nameOk b.Purses[0].Door<;>cases ilt (ledO b b.Purses[0].Team b.Purses[0].Resource) 0<;>cases ile 1 b.Purses[0].Amount<;>cases ile b.Purses[0].Amount 1000000<;>cases ile b.Tick b.Purses[0].Until<;>cases ile b.Purses[0].Until (iadd .i64 b.Tick 10)<;>rfl
   ·have hi':i-1 < b.Purses.length:=by omega
    simp only [ilt_0 h0,isub_n h0 (show i≤1048576 by have:=hpu.1;omega),inb_n hi',cond_true,req_t,nth_i hi',ahead_s h0 hi,purB]
    cases purP b.Purses[i-1] b.Purses[i]<;>cases nameOk b.Purses[i].Door<;>cases ilt (ledO b b.Purses[i].Team b.Purses[i].Resource) 0<;>cases ile 1 b.Purses[i].Amount<;>cases ile b.Purses[i].Amount 1000000<;>cases ile b.Tick b.Purses[i].Until<;>cases ile b.Purses[i].Until (iadd .i64 b.Tick 10)<;>rfl) k m (by have:=hpu.1;omega)
 have h26:=fun m:List Pair2=>loop_all (R:=Option Bool) (x:=b.Ledgers) (p:=fun g=>ieq (getA (keyL g) m) g.Most) (B:=0) (l:=fun k i=>iter (ts:=impl_GateBook_sumsOk_L26_ts) (R:=Bool) k (impl_GateBook_sumsOk_L26 (some true)) b.Ledgers (b.Ledgers.length:Int) i m) (E:=some true) (O:=some false)
  (fun k=>by simp only [iter,impl_GateBook_sumsOk_L26,ilt_e,cond_false]<;>rfl)
  (fun k i hi _=>by
   simp only [iter,impl_GateBook_sumsOk_L26,ilt_n hi,inb_n hi,cond_true,req_t,nth_i hi,iadd_n hle.1 hi]
   have e:mget (fun p:Pair2=>(seq b.Ledgers[i].Team p.Key.team&&(seq b.Ledgers[i].Resource p.Key.resource))) (fun p:Pair2=>p.Val) (0:Int) m=getA (keyL b.Ledgers[i]) m:=rfl
   rw [e]
   cases ieq (getA (keyL b.Ledgers[i]) m) b.Ledgers[i].Most<;>rfl) k (by have:=hle.1;omega)
 simp only [share,ilt_not]
 cases hl1:ile (b.Ledgers.length:Int) 10 with
 | false=>rfl
 | true=>
  cases hl2:ile (b.Purses.length:Int) 24 with
  | false=>rfl
  | true=>
   refine (h5 _).trans ?_
   cases hc:chain (led1 w) none b.Ledgers with
   | false=>simp only [Bool.false_and,Bool.and_false];rfl
   | true=>
    refine (h16 _ _).trans ?_
    cases hp:chain (pur1 b) none b.Purses with
    | false=>rfl
    | true=>
     refine (h26 _).trans ?_
     have hg:=chain_pur hp
     have hled:chain (fun q g=>led0 w g&&ledB q g) none b.Ledgers=true:=hc
     rw [chain_and,chain_all] at hled
     have hall:=List.all_eq_true.1 (Bool.and_eq_true_iff.1 hled).1
     have hnd:=(chain_led (Bool.and_eq_true_iff.1 hled).2).1
     have hle2:=ile_le hl2
     rw [all_ext (p:=fun g=>ieq (getA (keyL g) (b.Purses.foldl mPur (b.Ledgers.foldl (mLed w b) []))) g.Most) (q:=sumL w b) fun g hgm=>by
      have hu:=usedM_range (w:=w) (team:=g.Team) (res:=g.Resource) hb' hl
      have h0:=hall g hgm
      simp only [led0,Bool.and_eq_true] at h0
      have f1:=ile_le h0.2.2.1
      have f2:=ile_le h0.2.2.2.1
      have f3:=ile_le h0.2.2.2.2
      have e1:=mLed_get (w:=w) (b:=b) b.Ledgers [] hnd g hgm
      rw [iaddn (by omega) (by omega)] at e1
      have e2:=mPur_get (a:=keyL g) b.Purses (b.Ledgers.foldl (mLed w b) []) hg (by omega) (by omega)
      rw [e2,e1]
      unfold sumL outM
      congr 1
      omega]
     cases b.Ledgers.all (sumL w b)<;>rfl
def bookOk (w:GateLaw) (b:GateBook):Bool:=(lawOk w&&((ile 0 b.Now&&ile b.Now 1000000)&&((ile 0 b.Tick&&ile b.Tick 1000000)&&(ile 0 b.Given&&ile b.Given b.Now))))&&(objectsOk w b&&(grantsOk b&&sumsOk w b))
theorem objects40 {w:GateLaw} {b:GateBook} (h:objectsOk w b=true):b.Objects.length≤40:=by
 simp only [objectsOk,Bool.and_eq_true] at h
 have:=ile_le h.1;omega
theorem lawOk_mends {w:GateLaw} (h:lawOk w=true):mendsOk w.Shapes w.Mends=true:=by
 simp only [lawOk,Bool.and_eq_true] at h;exact h.1
theorem specBookOk_e {k:Nat} {w:GateLaw} {b:GateBook} (hk:4194304*12≤k) (hw:w.sd) (hb:b.sd):spec_GateBookOk k w b=some (bookOk w b):=by
 unfold spec_GateBookOk bookOk
 simp only [share,specLawOk_e (show 4194304*6≤k by omega) hw,in_e,Option.bind_some,specGrants_e (show 4194304*3≤k by omega) hb]
 cases hl:lawOk w with
 | false=>rfl
 | true=>
  rw [specObjects_e (show 4194304*10≤k by omega) hw hb (lawOk_mends hl)]
  cases ile 0 b.Now&&ile b.Now 1000000 with
  | false=>rfl
  | true=>
   cases ile 0 b.Tick&&ile b.Tick 1000000 with
   | false=>rfl
   | true=>
    cases ile 0 b.Given&&ile b.Given b.Now with
    | false=>rfl
    | true=>
     cases ho:objectsOk w b with
     | false=>rfl
     | true=>
      rw [specSums_e (show 4194304*5≤k by omega) hw hb (objects40 ho)]
      cases grantsOk b<;>rfl
theorem implBookOk_e {k:Nat} {w:GateLaw} {b:GateBook} (hk:4194304*12≤k) (hw:w.sd) (hb:b.sd):impl_GateBookOk k w b=some (bookOk w b):=by
 unfold impl_GateBookOk bookOk
 simp only [share,implLawOk_e (show 4194304*7≤k by omega) hw,Option.bind_some,implGrants_e (show 4194304*3≤k by omega) hb,ilt_not]
 cases hl:lawOk w with
 | false=>rfl
 | true=>
  rw [implObjects_e hk hw hb (lawOk_mends hl)]
  cases ile 0 b.Now with
  | false=>rfl
  | true=>
   cases ile b.Now 1000000 with
   | false=>rfl
   | true=>
    cases ile 0 b.Tick with
    | false=>rfl
    | true=>
     cases ile b.Tick 1000000 with
     | false=>rfl
     | true=>
      cases ile 0 b.Given with
      | false=>rfl
      | true=>
       cases ile b.Given b.Now with
       | false=>rfl
       | true=>
        cases ho:objectsOk w b with
        | false=>rfl
        | true=>
         rw [implSums_e (show 4194304*5≤k by omega) hw hb (objects40 ho)]
         cases grantsOk b<;>rfl
theorem lawOk_teams {w:GateLaw} (h:lawOk w=true):teamsOk w.Teams=true:=by
 simp only [lawOk,Bool.and_eq_true] at h;exact h.2
theorem bookOk_law {w:GateLaw} {b:GateBook} (h:bookOk w b=true):lawOk w=true:=by
 simp only [bookOk,Bool.and_eq_true] at h;exact h.1.1
theorem grants_rules {b:GateBook}:∀ {l:List GateGrant} {q:Option GateGrant},chain (grant1 b) q l=true→∀ g,g∈l→ruleOk g.Rule=true
 | [],_,_,_,h=>by cases h
 | a::r,q,h,g,hg=>by
  simp only [chain,Bool.and_eq_true] at h
  rcases List.mem_cons.1 hg with e | e
  ·subst e
   have h1:=h.1
   simp only [grant1,Bool.and_eq_true] at h1
   exact h1.2.2.2.2
  ·exact grants_rules h.2 g e
theorem equalTexts_self {k:Nat} {xs:List Nm} (hk:4194304≤k) (hx:xs.length≤1048576):impl_equalTexts k xs xs=some true:=by
 unfold impl_equalTexts
 rw [ieq_self]
 have h:=loop_all (R:=Option Bool) (x:=xs) (p:=fun _=>true) (B:=0) (l:=fun k i=>iter (ts:=impl_equalTexts_L4_ts) (R:=Bool) k (impl_equalTexts_L4 (some true)) xs xs (xs.length:Int) i) (E:=some true) (O:=some false)
  (fun k=>by simp only [iter,impl_equalTexts_L4,ilt_e,cond_false]<;>rfl)
  (fun k i hi _=>by simp only [iter,impl_equalTexts_L4,ilt_n hi,inb_n hi,cond_true,req_t,nth_i hi,seq_self,iadd_n hx hi]<;>rfl) k (by omega)
 exact h.trans (by rw [show xs.all (fun _=>true)=true by simp];rfl)
theorem seq_nil (x:Nm):seq [] x=seq x []:=seq_comm _ _
theorem zero_beq (x:Int):((0:Int)==x)=(x==0):=by rw [Bool.eq_iff_iff];simp only [beq_iff_eq];exact eq_comm
theorem equalTexts_nil {k:Nat} {xs:List Nm} (hk:4194304≤k):impl_equalTexts k [] xs=some (ieq (xs.length:Int) 0):=by
 unfold impl_equalTexts
 rw [ieq_comm (xs.length:Int) 0]
 simp only [List.length_nil]
 cases h:ieq ((0:Nat):Int) (xs.length:Int) with
 | false=>rfl
 | true=>
  obtain ⟨k,rfl⟩:∃ q,k=q+1:=⟨k-1,by omega⟩
  rfl
theorem sameRule_self {k:Nat} {r:GateRule} (hk:4194304≤k) (hx:r.Verbs.length≤1048576):impl_sameRule k r r=some true:=by
 unfold impl_sameRule
 have h:=loop_all (R:=Option Bool) (x:=r.Verbs) (p:=fun _=>true) (B:=0) (l:=fun k i=>iter (ts:=impl_sameRule_L4_ts) (R:=Bool) k (impl_sameRule_L4 (some true)) r r (r.Verbs.length:Int) i) (E:=some true) (O:=some false)
  (fun k=>by simp only [iter,impl_sameRule_L4,ilt_e,cond_false]<;>rfl)
  (fun k i hi _=>by simp only [iter,impl_sameRule_L4,ilt_n hi,inb_n hi,cond_true,req_t,nth_i hi,ieq_self,iadd_n hx hi]<;>rfl) k (by omega)
 simp only [share,ieq_self,seq_self]
 exact h.trans (by rw [show r.Verbs.all (fun _=>true)=true by simp];rfl)
def noRule (r:GateRule):Bool:=ieq (r.Verbs.length:Int) 0&&(seq r.Kind []&&(seq r.Team []&&seq r.Prefix []))
theorem sameRule_nil {k:Nat} {r:GateRule} (hk:4194304≤k):impl_sameRule k ⟨[],[],[],[]⟩ r=some (noRule r):=by
 unfold impl_sameRule noRule
 rw [ieq_comm (r.Verbs.length:Int) 0,seq_comm r.Kind,seq_comm r.Team,seq_comm r.Prefix]
 obtain ⟨k,rfl⟩:∃ q,k=q+1:=⟨k-1,by omega⟩
 simp only [share,List.length_nil]
 have go:ieq 0 (r.Verbs.length:Int)=true→iter (ts:=impl_sameRule_L4_ts) (R:=Bool) (k+1) (impl_sameRule_L4 (some true)) (⟨[],[],[],[]⟩:GateRule) r ((0:Nat):Int) (0:Int)=some true:=fun _=>rfl
 change cond (!ieq 0 (r.Verbs.length:Int)) _ _=_
 cases h:ieq 0 (r.Verbs.length:Int) with
 | false=>rfl
 | true=>cases seq [] r.Kind<;>cases seq [] r.Team<;>cases seq [] r.Prefix<;>first | rfl | exact go h
def kindN (w:GateLaw) (a:GateAsk):Bool:=match w.Shapes.find? fun s=>seq s.Kind a.Kind with
 | some _=>nameOk a.Name
 | none=>false
def valuesN (w:GateLaw) (a:GateAsk):Bool:=match w.Shapes.find? fun s=>seq s.Kind a.Kind with
 | some s=>ieq (a.Values.length:Int) (s.Fields.length:Int)
 | none=>false
def formN (w:GateLaw) (a:GateAsk):Bool:=
 cond (ieq a.Verb 1) (kindN w a&&((teamN w.Teams a.Team).isSome&&(valuesN w a&&(ile (a.Holds.length:Int) 3&&ascend a.Holds))))
 (cond (ieq a.Verb 2) (kindN w a&&(valuesN w a&&ile 0 a.Seen))
 (cond (ieq a.Verb 3) (kindN w a&&ile 0 a.Seen)
 (cond (ieq a.Verb 4) (kindN w a&&nameOk a.Hold)
 (cond (ieq a.Verb 5) (nameOk a.To&&ruleOk a.Rule) (ile 1 a.Number)))))
def nothing (a:GateAsk):Bool:=seq a.Kind []&&(seq a.Name []&&(seq a.Team []&&(ieq (a.Values.length:Int) 0&&(ieq (a.Holds.length:Int) 0&&(ieq a.Seen 0&&(seq a.Hold []&&(seq a.To []&&(noRule a.Rule&&ieq a.Number 0))))))))
def restN (a:GateAsk):Bool:=
 cond (ieq a.Verb 1) (ieq a.Seen 0&&(seq a.Hold []&&(seq a.To []&&(noRule a.Rule&&ieq a.Number 0))))
 (cond (ieq a.Verb 2) (seq a.Team []&&(ieq (a.Holds.length:Int) 0&&(seq a.Hold []&&(seq a.To []&&(noRule a.Rule&&ieq a.Number 0)))))
 (cond (ieq a.Verb 3) (seq a.Team []&&(ieq (a.Values.length:Int) 0&&(ieq (a.Holds.length:Int) 0&&(seq a.Hold []&&(seq a.To []&&(noRule a.Rule&&ieq a.Number 0))))))
 (cond (ieq a.Verb 4) (seq a.Team []&&(ieq (a.Values.length:Int) 0&&(ieq (a.Holds.length:Int) 0&&(ieq a.Seen 0&&(seq a.To []&&(noRule a.Rule&&ieq a.Number 0))))))
 (cond (ieq a.Verb 5) (seq a.Kind []&&(seq a.Name []&&(seq a.Team []&&(ieq (a.Values.length:Int) 0&&(ieq (a.Holds.length:Int) 0&&(ieq a.Seen 0&&(seq a.Hold []&&ieq a.Number 0)))))))
 (seq a.Kind []&&(seq a.Name []&&(seq a.Team []&&(ieq (a.Values.length:Int) 0&&(ieq (a.Holds.length:Int) 0&&(ieq a.Seen 0&&(seq a.Hold []&&(seq a.To []&&noRule a.Rule))))))))))))
def askN (w:GateLaw) (a:GateAsk):Bool:=nameOk a.Who&&((ile 1 a.Verb&&ile a.Verb 6)&&(restN a&&formN w a))
theorem nothing_e (k:Nat) (a:GateAsk):spec_l8Nothing k a=some (nothing a):=by
 unfold spec_l8Nothing nothing noRule
 simp only [cand,Bool.and_assoc]
theorem six {v:Int} (h:(ile 1 v&&ile v 6)=true):v=1∨v=2∨v=3∨v=4∨v=5∨v=6:=by
 simp only [Bool.and_eq_true,ile,decide_eq_true_eq] at h;omega
theorem rest_e (k:Nat) {a:GateAsk} (h:(ile 1 a.Verb&&ile a.Verb 6)=true):((spec_l8Rest k a).bind fun b=>spec_l8Nothing k b)=some (restN a):=by
 unfold spec_l8Rest restN
 simp only [share,nothing_e]
 rcases six h with e | e | e | e | e | e<;>rw [e]<;>simp only [ieq,Int.reduceBEq,cond_true,cond_false,Option.bind_some,nothing,noRule,seq_self,Bool.true_and,Bool.and_true,List.length_nil]<;>rfl
theorem kindOk_e {k:Nat} {w:GateLaw} {a:GateAsk} (hk:4194304≤k) (hw:w.sd) (ha:a.sd):impl_kindOk k w a=some (kindN w a):=by
 unfold impl_kindOk kindN
 rw [shapeOf_e hk hw.1.1,isName_e hk ha.2.2.2.1]
 simp only [Option.bind_some]
 rcases gidx_find (fun s:GateShape=>seq s.Kind a.Kind) w.Shapes with ⟨h1,h2⟩ | ⟨j,hj,h1,h2,_⟩
 ·rw [h1,h2];rfl
 ·rw [h1,h2,ile_t (by omega)];rfl
theorem valuesOk_e {k:Nat} {w:GateLaw} {a:GateAsk} (hk:4194304≤k) (hw:w.sd):impl_valuesOk k w a=some (valuesN w a):=by
 unfold impl_valuesOk valuesN
 rw [shapeOf_e hk hw.1.1]
 simp only [Option.bind_some]
 rcases gidx_find (fun s:GateShape=>seq s.Kind a.Kind) w.Shapes with ⟨h1,h2⟩ | ⟨j,hj,h1,h2,_⟩
 ·rw [h1,h2];rfl
 ·rw [h1,h2,ile_t (by omega),inb_n hj,nth_i hj];rfl
theorem teamAt {x:List GateTeam} {n:Nm}:ile 0 (gidx (fun t:GateTeam=>seq t.Name n) x 0)=(teamN x n).isSome:=by
 unfold teamN
 rcases gidx_find (fun t:GateTeam=>seq t.Name n) x with ⟨h1,h2⟩ | ⟨j,hj,h1,h2,_⟩
 ·rw [h1,h2];rfl
 ·rw [h1,h2,ile_t (by omega)];rfl
theorem implAskOk_e {k:Nat} {w:GateLaw} {a:GateAsk} (hk:4194304*7≤k) (hw:w.sd) (ha:a.sd):impl_GateAskOk k w a=some (lawOk w&&askN w a):=by
 unfold impl_GateAskOk askN
 have ha':=ha
 obtain ⟨a1,-,a2,a3,a4,a5,a6,-,a7,a8,a9,-⟩:=ha
 simp only [share,implLawOk_e hk hw,isName_e (show 4194304≤k by omega) a1,Option.bind_some]
 cases hl:lawOk w with
 | false=>rfl
 | true=>
  cases hn:nameOk a.Who with
  | false=>rfl
  | true=>
   cases h6:(ile 1 a.Verb&&ile a.Verb 6) with
   | false=>
    simp only [ilt_not]
    cases h1:ile 1 a.Verb with
    | false=>rfl
    | true=>
     rw [h1,Bool.true_and] at h6
     rw [h6];rfl
   | true=>
    have hk':4194304≤k:=by omega
    have hk8:8388608≤k:=by omega
    rw [Bool.and_eq_true] at h6
    rw [ilt_not,ilt_not,h6.1,h6.2]
    have h7:(ile 1 a.Verb&&ile a.Verb 6)=true:=by rw [h6.1,h6.2];rfl
    simp only [impl_verbs,impl_makeVerb_only,impl_changeVerb_only,impl_endVerb_only,impl_letGoVerb_only,impl_giveVerb_only,impl_takeVerb_only,impl_makeVerb_form,impl_changeVerb_form,impl_endVerb_form,impl_letGoVerb_form,impl_giveVerb_form,impl_takeVerb_form,
     kindOk_e hk' hw ha',valuesOk_e hk' hw,teamOf_e hk' hw.2.2.1,teamAt,ascendingNames_e hk8 a6,isName_e hk' a7,isName_e hk' a8,implRuleOk_e hk8 a9,equalTexts_self hk' a5.1,equalTexts_self hk' a6.1,equalTexts_nil hk',sameRule_self hk' a9.1.1,sameRule_nil hk',Option.bind_some,seq_self,cand,restN,formN]
    rcases six h7 with e | e | e | e | e | e<;>rw [e]<;>simp only [ieq,Int.reduceBEq,cond_true,cond_false,Bool.not_true,Bool.true_and,Bool.and_true,Bool.and_assoc,beq_self_eq_true,seq_nil,zero_beq]<;>rfl
theorem specAskOk_e {k:Nat} {w:GateLaw} {a:GateAsk} (hk:4194304*2≤k) (hw:w.sd) (ha:a.sd):spec_l8AskOk k w a=some (askN w a):=by
 have hk':4194304≤k:=by omega
 have ha':=ha
 obtain ⟨a1,-,a2,a3,a4,a5,a6,-,a7,a8,a9,-⟩:=ha
 unfold spec_l8AskOk askN
 simp only [share,l1NameOk_e hk' a1,in_e,Option.bind_some]
 cases hn:nameOk a.Who with
 | false=>rfl
 | true=>
  cases h6:(ile 1 a.Verb&&ile a.Verb 6) with
  | false=>rfl
  | true=>
   have hr:=rest_e k h6
   have hr2:∀ f:Bool→Option Bool,((spec_l8Rest k a).bind fun b=>(spec_l8Nothing k b).bind f)=f (restN a):=fun f=>by
    have:((spec_l8Rest k a).bind fun b=>(spec_l8Nothing k b).bind f)=((spec_l8Rest k a).bind fun b=>spec_l8Nothing k b).bind f:=by
     cases spec_l8Rest k a<;>rfl
    rw [this,hr];rfl
   rw [hr2]
   simp only [Bool.not_true,cond_false,Bool.true_and]
   cases restN a with
   | false=>rfl
   | true=>
    simp only [Bool.not_true,cond_false,Bool.true_and,l1Shape_e hk' hw.1.1,fidx_gidx,l1NameOk_e hk' a3,l1NameOk_e hk' a7,l1NameOk_e hk' a8,l4Team_e hk' hw.2.2.1,l1Ascending_e hk a6,specRuleOk_e hk a9,Option.bind_some,cand,formN,kindN,valuesN]
    rcases gidx_find (fun s:GateShape=>seq s.Kind a.Kind) w.Shapes with ⟨h1,h2⟩ | ⟨j,hj,h1,h2,_⟩
    ·rw [h1,h2]
     rcases six h6 with e | e | e | e | e | e<;>rw [e]<;>simp only [ieq,Int.reduceBEq,cond_true,cond_false,Bool.false_and]<;>rfl
    ·rw [h1,h2,ilt_f (by omega),inb_n hj,nth_i hj]
     simp only [cond_false,req_t]
     rcases six h6 with e | e | e | e | e | e<;>rw [e]<;>simp only [ieq,Int.reduceBEq,cond_true,cond_false]<;>first
      | rfl
      | (cases nameOk a.Name with
       | false=>rfl
       | true=>
        cases (a.Values.length:Int)==(w.Shapes[j].Fields.length:Int)<;>first | rfl | (cases (teamN w.Teams a.Team).isSome<;>rfl))
def wantP (v:GateWant):Bool:=nameOk v.Kind&&(nameOk v.Name&&ile 0 v.Version)
def slipN (w:GateLaw) (s:GateSlip):Bool:=nameOk s.Door&&(askN w s.Ask&&(ile 0 s.Given&&(ile (s.Wants.length:Int) 8&&s.Wants.all wantP)))
theorem specSlip1_e {k:Nat} {w:GateLaw} {s:GateSlip} (hk:4194304*2≤k) (hw:w.sd) (hs:s.sd):spec_l9SlipOk k w s=some (slipN w s):=by
 obtain ⟨h1,h2,-,h3⟩:=hs
 unfold spec_l9SlipOk slipN
 have h:=loop_all (R:=Option Bool) (x:=s.Wants) (p:=wantP) (B:=4194304) (l:=fun k i=>iter (ts:=spec_l9SlipOk_L4_ts) (R:=Bool) k (spec_l9SlipOk_L4 (some true)) s i) (E:=some true) (O:=some false)
  (fun k=>by simp only [iter,spec_l9SlipOk_L4,ilt_e,cond_false]<;>rfl)
  (fun k i hi hb=>by
   have hv:=h3.2 _ (mem_i hi)
   simp only [iter,spec_l9SlipOk_L4,share,ilt_n hi,inb_n hi,cond_true,req_t,nth_i hi,l1NameOk_e hb hv.1,l1NameOk_e hb hv.2.1,Option.bind_some,wantP]
   rw [iadd_n h3.1 hi,ilt_not]
   cases nameOk s.Wants[i].Kind<;>cases nameOk s.Wants[i].Name<;>cases ile 0 s.Wants[i].Version<;>rfl) k (by have:=h3.1;omega)
 simp only [share,l1NameOk_e (show 4194304≤k by omega) h1,specAskOk_e hk hw h2,Option.bind_some]
 rw [ilt_not s.Given,ilt_not 8]
 cases nameOk s.Door<;>cases askN w s.Ask<;>cases ile 0 s.Given<;>cases ile (s.Wants.length:Int) 8<;>first | rfl | exact h.trans (by cases s.Wants.all wantP<;>rfl)
theorem implSlip_e {k:Nat} {w:GateLaw} {s:GateSlip} (hk:4194304*7≤k) (hw:w.sd) (hs:s.sd):impl_GateSlipOk k w s=some (lawOk w&&slipN w s):=by
 obtain ⟨h1,h2,-,h3⟩:=hs
 unfold impl_GateSlipOk slipN
 have h:=loop_all (R:=Option Bool) (x:=s.Wants) (p:=wantP) (B:=4194304) (l:=fun k i=>iter (ts:=impl_GateSlipOk_L4_ts) (R:=Bool) k (impl_GateSlipOk_L4 (some true)) s.Wants (s.Wants.length:Int) i) (E:=some true) (O:=some false)
  (fun k=>by simp only [iter,impl_GateSlipOk_L4,ilt_e,cond_false]<;>rfl)
  (fun k i hi hb=>by
   have hv:=h3.2 _ (mem_i hi)
   simp only [iter,impl_GateSlipOk_L4,share,ilt_n hi,inb_n hi,cond_true,req_t,nth_i hi,isName_e hb hv.1,isName_e hb hv.2.1,Option.bind_some,wantP]
   rw [iadd_n h3.1 hi,ilt_not]
   cases nameOk s.Wants[i].Kind<;>cases nameOk s.Wants[i].Name<;>cases ile 0 s.Wants[i].Version<;>rfl) k (by have:=h3.1;omega)
 simp only [share,isName_e (show 4194304≤k by omega) h1,implAskOk_e hk hw h2,Option.bind_some]
 rw [ilt_not s.Given,ilt_not 8]
 cases nameOk s.Door<;>cases lawOk w<;>cases askN w s.Ask<;>cases ile 0 s.Given<;>cases ile (s.Wants.length:Int) 8<;>first | rfl | exact h.trans (by cases s.Wants.all wantP<;>rfl)
def slipD (w:GateLaw) (d:GateDoor) (s:GateSlip):Bool:=slipN w s&&seq s.Door d.Name
def door1 (w:GateLaw) (now:Int) (d:GateDoor):Bool:=nameOk d.Name&&(bookOk w d.View&&(ile d.View.Now now&&(ile (d.Slips.length:Int) 6&&((d.Up||ile (d.Slips.length:Int) 0)&&d.Slips.all (slipD w d)))))
def doorB (q:Option GateDoor) (d:GateDoor):Bool:=match q with
 | none=>true
 | some p=>slt p.Name d.Name
def worldOk (w:GateLaw) (x:GateWorld):Bool:=(bookOk w x.Book&&ile (x.Doors.length:Int) 4)&&chain (fun q d=>door1 w x.Book.Now d&&doorB q d) none x.Doors
theorem specDoor_e {k:Nat} {w:GateLaw} {x:GateWorld} {d:GateDoor} (hk:4194304*12≤k) (hw:w.sd) (hd:d.sd):spec_l10DoorOk k w x d=some (door1 w x.Book.Now d):=by
 obtain ⟨h1,-,h2,h3⟩:=hd
 unfold spec_l10DoorOk door1
 have h:=loop_all (R:=Option Bool) (x:=d.Slips) (p:=slipD w d) (B:=4194304*2) (l:=fun k i=>iter (ts:=spec_l10DoorOk_L4_ts) (R:=Bool) k (spec_l10DoorOk_L4 (some true)) w d i) (E:=some true) (O:=some false)
  (fun k=>by simp only [iter,spec_l10DoorOk_L4,ilt_e,cond_false]<;>rfl)
  (fun k i hi hb=>by
   simp only [iter,spec_l10DoorOk_L4,share,ilt_n hi,inb_n hi,cond_true,req_t,nth_i hi,specSlip1_e hb hw (h3.2 _ (mem_i hi)),Option.bind_some,iadd_n h3.1 hi,slipD]
   cases slipN w d.Slips[i]<;>cases seq d.Slips[i].Door d.Name<;>rfl) k (by have:=h3.1;omega)
 simp only [share,l1NameOk_e (show 4194304≤k by omega) h1,specBookOk_e hk hw h2,Option.bind_some,ilt_not]
 cases nameOk d.Name with
 | false=>rfl
 | true=>
  cases bookOk w d.View with
  | false=>rfl
  | true=>
   cases ile d.View.Now x.Book.Now with
   | false=>rfl
   | true=>
    cases ile (d.Slips.length:Int) 6 with
    | false=>rfl
    | true=>
     cases d.Up<;>cases ile (d.Slips.length:Int) 0<;>first | rfl | exact h.trans (by cases d.Slips.all (slipD w d)<;>rfl)
theorem implDoor_e {k:Nat} {w:GateLaw} {n:Int} {d:GateDoor} (hk:4194304*12≤k) (hw:w.sd) (hd:d.sd):impl_doorOk k w d n=some (door1 w n d):=by
 obtain ⟨h1,-,h2,h3⟩:=hd
 unfold impl_doorOk door1
 simp only [share,isName_e (show 4194304≤k by omega) h1,implBookOk_e hk hw h2,Option.bind_some,ilt_not]
 cases nameOk d.Name with
 | false=>rfl
 | true=>
  cases hb:bookOk w d.View with
  | false=>rfl
  | true=>
   have hl:=bookOk_law hb
   have h:=loop_all (R:=Option Bool) (x:=d.Slips) (p:=slipD w d) (B:=4194304*7) (l:=fun k i=>iter (ts:=impl_doorOk_L4_ts) (R:=Bool) k (impl_doorOk_L4 (some true)) w d d.Slips (d.Slips.length:Int) i) (E:=some true) (O:=some false)
    (fun k=>by simp only [iter,impl_doorOk_L4,ilt_e,cond_false]<;>rfl)
    (fun k i hi hb=>by
     simp only [iter,impl_doorOk_L4,share,ilt_n hi,inb_n hi,cond_true,req_t,nth_i hi,implSlip_e hb hw (h3.2 _ (mem_i hi)),hl,Bool.true_and,Option.bind_some,iadd_n h3.1 hi,slipD]
     cases slipN w d.Slips[i]<;>cases seq d.Slips[i].Door d.Name<;>rfl) k (by have:=h3.1;omega)
   cases ile d.View.Now n with
   | false=>rfl
   | true=>
    cases ile (d.Slips.length:Int) 6 with
    | false=>rfl
    | true=>
     cases d.Up<;>cases ile (d.Slips.length:Int) 0<;>first | rfl | exact h.trans (by cases d.Slips.all (slipD w d)<;>rfl)
theorem specWorld_e {k:Nat} {w:GateLaw} {x:GateWorld} (hk:4194304*14≤k) (hw:w.sd) (hx:x.sd):spec_GateWorldOk k w x=some (worldOk w x):=by
 obtain ⟨h1,h2⟩:=hx
 unfold spec_GateWorldOk worldOk
 have h:=loop_chain (R:=Option Bool) (x:=x.Doors) (p:=fun q d=>door1 w x.Book.Now d&&doorB q d) (B:=4194304*12) (l:=fun k i=>iter (ts:=spec_GateWorldOk_L4_ts) (R:=Bool) k (spec_GateWorldOk_L4 (some true)) w x i) (E:=some true) (O:=some false)
  (fun k=>by simp only [iter,spec_GateWorldOk_L4,ilt_e,cond_false]<;>rfl)
  (fun k i hi hb=>by
   simp only [iter,spec_GateWorldOk_L4,share,ilt_n hi,inb_n hi,cond_true,req_t,nth_i hi,specDoor_e (x:=x) hb hw (h2.2 _ (mem_i hi)),Option.bind_some,iadd_n h2.1 hi]
   rcases Nat.eq_zero_or_pos i with rfl | h0
   ·simp only [ilt_00,ahead_0,doorB]
    cases door1 w x.Book.Now x.Doors[0]<;>rfl
   ·have hi':i-1 < x.Doors.length:=by omega
    simp only [ilt_0 h0,isub_n h0 (show i≤1048576 by have:=h2.1;omega),inb_n hi',cond_true,req_t,nth_i hi',ahead_s h0 hi,doorB]
    cases door1 w x.Book.Now x.Doors[i]<;>cases slt x.Doors[i-1].Name x.Doors[i].Name<;>rfl) k (by have:=h2.1;omega)
 simp only [share,specBookOk_e (show 4194304*12≤k by omega) hw h1,Option.bind_some,ilt_not]
 cases bookOk w x.Book<;>cases ile (x.Doors.length:Int) 4<;>first | rfl | exact h.trans (by cases chain (fun q d=>door1 w x.Book.Now d&&doorB q d) none x.Doors<;>rfl)
theorem implWorld_e {k:Nat} {w:GateLaw} {x:GateWorld} (hk:4194304*14≤k) (hw:w.sd) (hx:x.sd):impl_GateWorldOk k w x=some (worldOk w x):=by
 obtain ⟨h1,h2⟩:=hx
 unfold impl_GateWorldOk worldOk
 have h:=loop_chain (R:=Option Bool) (x:=x.Doors) (p:=fun q d=>door1 w x.Book.Now d&&doorB q d) (B:=4194304*12) (l:=fun k i=>iter (ts:=impl_GateWorldOk_L4_ts) (R:=Bool) k (impl_GateWorldOk_L4 (some true)) w x x.Doors (x.Doors.length:Int) i) (E:=some true) (O:=some false)
  (fun k=>by simp only [iter,impl_GateWorldOk_L4,ilt_e,cond_false]<;>rfl)
  (fun k i hi hb=>by
   simp only [iter,impl_GateWorldOk_L4,share,ilt_n hi,inb_n hi,cond_true,req_t,nth_i hi,implDoor_e hb hw (h2.2 _ (mem_i hi)),Option.bind_some,iadd_n h2.1 hi]
   rcases Nat.eq_zero_or_pos i with rfl | h0
   ·simp only [ilt_00,ahead_0,doorB]
    cases door1 w x.Book.Now x.Doors[0]<;>rfl
   ·have hi':i-1 < x.Doors.length:=by omega
    simp only [ilt_0 h0,isub_n h0 (show i≤1048576 by have:=h2.1;omega),inb_n hi',cond_true,req_t,nth_i hi',ahead_s h0 hi,doorB]
    cases door1 w x.Book.Now x.Doors[i]<;>cases slt x.Doors[i-1].Name x.Doors[i].Name<;>rfl) k (by have:=h2.1;omega)
 simp only [share,implBookOk_e (show 4194304*12≤k by omega) hw h1,Option.bind_some,ilt_not]
 cases bookOk w x.Book<;>cases ile (x.Doors.length:Int) 4<;>first | rfl | exact h.trans (by cases chain (fun q d=>door1 w x.Book.Now d&&doorB q d) none x.Doors<;>rfl)
def hasV (r:GateRule) (v:Int):Bool:=r.Verbs.any fun y=>ieq y v
theorem specVerb_e {k:Nat} {r:GateRule} {v:Int} (hk:4194304≤k) (hr:r.sd):spec_l4Verb k r v=some (hasV r v):=by
 unfold spec_l4Verb
 have h:=loop_any (R:=Option Bool) (x:=r.Verbs) (p:=fun y=>ieq y v) (B:=0) (l:=fun k i=>iter (ts:=spec_l4Verb_L2_ts) (R:=Bool) k (spec_l4Verb_L2 (some false)) v r i) (E:=some false) (O:=some true)
  (fun k=>by simp only [iter,spec_l4Verb_L2,ilt_e,cond_false]<;>rfl)
  (fun k i hi _=>by simp only [iter,spec_l4Verb_L2,ilt_n hi,inb_n hi,cond_true,req_t,nth_i hi,iadd_n hr.1.1 hi]<;>rfl) k (by have:=hr.1.1;omega)
 simp only [share]
 refine h.trans ?_
 unfold hasV
 cases r.Verbs.any fun y=>ieq y v<;>rfl
theorem hasV_iff {r:GateRule} {v:Int}:hasV r v=true↔v∈r.Verbs:=by
 simp only [hasV,List.any_eq_true,ieq,beq_iff_eq]
 exact ⟨fun ⟨y,h1,h2⟩=>h2▸h1,fun h=>⟨v,h,rfl⟩⟩
def setStep (s:Int) (v:Int):Int:=bOr .u16 s (bShl .u16 1 (iconv .u64 v))
def bit (s v:Int):Bool:=ieq (bAnd .u16 (bShr .u16 s (iconv .u64 v)) 1) 1
theorem step_bit:∀ s:Fin 64,∀ a:Fin 5,(∃ t:Fin 64,setStep (s.val:Int) ((a.val+1:Nat):Int)=(t.val:Int))∧∀ v:Fin 5,bit (setStep (s.val:Int) ((a.val+1:Nat):Int)) ((v.val+1:Nat):Int)=(bit (s.val:Int) ((v.val+1:Nat):Int)||ieq ((a.val+1:Nat):Int) ((v.val+1:Nat):Int)):=by
 decide +kernel
theorem set_bits:∀ (vs:List Int) (s:Fin 64),(∀ v,v∈vs→1≤v∧v≤5)→∀ v:Int,1≤v→v≤5→bit (vs.foldl setStep (s.val:Int)) v=(bit (s.val:Int) v||vs.any fun y=>ieq y v)
 | [],s,_,v,_,_=>by simp
 | a::r,s,h,v,h1,h2=>by
  obtain ⟨ha1,ha2⟩:=h a (List.mem_cons_self ..)
  obtain ⟨a',rfl⟩:∃ a':Fin 5,a=((a'.val+1:Nat):Int):=⟨⟨(a-1).toNat,by omega⟩,by simp only;omega⟩
  obtain ⟨v',rfl⟩:∃ v':Fin 5,v=((v'.val+1:Nat):Int):=⟨⟨(v-1).toNat,by omega⟩,by simp only;omega⟩
  obtain ⟨⟨t,ht⟩,hb⟩:=step_bit s a'
  rw [List.foldl_cons,ht,set_bits r t (fun y hy=>h y (List.mem_cons_of_mem _ hy)) _ h1 h2,← ht,hb v',List.any_cons,Bool.or_assoc]
theorem bit_0:∀ v:Fin 5,bit 0 ((v.val+1:Nat):Int)=false:=by decide +kernel
theorem verbs_in {rv:List Int}:∀ {o:Option Int},chain verbP o rv=true→∀ v,v∈rv→1≤v∧v≤5:=by
 induction rv with
 | nil=>intro o _ v hv;cases hv
 | cons a r ih=>
  intro o h v hv
  simp only [chain,verbP,Bool.and_eq_true,ile,decide_eq_true_eq] at h
  rcases List.mem_cons.1 hv with e | e
  ·exact e▸h.1.1
  ·exact ih h.2 v e
theorem ruleOk_verbs {r:GateRule} (h:ruleOk r=true):∀ v,v∈r.Verbs→1≤v∧v≤5:=by
 simp only [ruleOk,Bool.and_eq_true] at h
 exact verbs_in h.2.2.2.2.1
theorem iconv_v {v:Int} (h1:1≤v) (h2:v≤5):ile 0 (iconv .u64 v)=true:=by
 obtain ⟨v',rfl⟩:∃ v':Fin 5,v=((v'.val+1:Nat):Int):=⟨⟨(v-1).toNat,by omega⟩,by simp only;omega⟩
 revert v'
 decide +kernel
theorem setOf_e {k:Nat} {vs:List Int} (hk:4194304≤k) (hl:vs.length≤1048576) (hv:∀ v,v∈vs→1≤v∧v≤5):impl_setOf k vs=some (vs.foldl setStep 0):=by
 unfold impl_setOf
 simp only [share]
 refine loop_fold (S:=Int) (x:=vs) (f:=setStep) (B:=0) (l:=fun k s i=>iter (ts:=impl_setOf_L3_ts) (R:=Int) k (impl_setOf_L3 fun v=>some v) s vs (vs.length:Int) i) (J:=fun s=>some s) (fun _ _=>True)
  (fun k s _=>by simp only [iter,impl_setOf_L3,ilt_e,cond_false]<;>rfl)
  (fun k i s hi _ _=>⟨by
   obtain ⟨h1,h2⟩:=hv _ (mem_i hi)
   simp only [iter,impl_setOf_L3,share,ilt_n hi,inb_n hi,cond_true,req_t,nth_i hi,ile_t (show (0:Int)≤vs[i] by omega),ilt_t (show vs[i] < (16:Int) by omega),iconv_v h1 h2]
   rw [iadd_n hl hi];rfl,trivial⟩) k 0 (by omega) trivial
theorem implHas_e {k:Nat} {r:GateRule} {v:Int} (hk:4194304≤k) (hr:r.sd) (ho:ruleOk r=true) (h1:1≤v) (h2:v≤5):((impl_setOf k r.Verbs).bind fun s=>impl_verbSet_has k s v)=some (hasV r v):=by
 rw [setOf_e hk hr.1.1 (ruleOk_verbs ho)]
 unfold impl_verbSet_has
 have hb:=set_bits r.Verbs 0 (ruleOk_verbs ho) v h1 h2
 have h0:bit 0 v=false:=by
  obtain ⟨v',rfl⟩:∃ v':Fin 5,v=((v'.val+1:Nat):Int):=⟨⟨(v-1).toNat,by omega⟩,by simp only;omega⟩
  exact bit_0 v'
 simp only [Option.bind_some,ile_t (show (0:Int)≤v by omega),ilt_t (show v < (16:Int) by omega),iconv_v h1 h2,cond_true,req_t]
 have hb':bit (r.Verbs.foldl setStep 0) v=hasV r v:=by
  have:bit (r.Verbs.foldl setStep 0) v=(bit 0 v||r.Verbs.any fun y=>ieq y v):=hb
  rw [this,h0,Bool.false_or];rfl
 rw [← hb'];rfl
def begins (x p:List UInt8):Bool:=ile (p.length:Int) (x.length:Int)&&seq (subl x 0 (p.length:Int)) p
theorem beg_e (x p:List UInt8):cond (ile (p.length:Int) (x.length:Int)) (req (subB 0 (p.length:Int) x.length) (some (seq (subl x 0 (p.length:Int)) p))) (some false)=some (begins x p):=by
 unfold begins
 cases h:ile (p.length:Int) (x.length:Int) with
 | false=>rfl
 | true=>
  simp only [ile,decide_eq_true_eq] at h
  have hs:subB 0 (p.length:Int) x.length=true:=by simp [subB];omega
  rw [hs];rfl
theorem specBegins_e (k:Nat) (x p:List UInt8):spec_l4Begins k x p=some (begins x p):=beg_e x p
theorem implBegins_e (k:Nat) (x p:List UInt8):strings_HasPrefix k x p=some (begins x p):=by
 show (stringslite_HasPrefix k x p).bind (fun v=>some v)=_
 have:stringslite_HasPrefix k x p=some (begins x p):=beg_e x p
 rw [this];rfl
def allOk (x:List GateTeam) (rs:List GateRule) (q:GateRule):Bool:=teamsOk x&&(ruleOk q&&rs.all ruleOk)
theorem implAllOk_e {k:Nat} {x:List GateTeam} {rs:List GateRule} {q:GateRule} (hk:4194304*3≤k) (hx:sdS GateTeam.sd x) (hr:sdS GateRule.sd rs) (hq:q.sd):impl_rulesOk k x rs q=some (allOk x rs q):=by
 unfold impl_rulesOk allOk
 have h:=loop_all (R:=Option Bool) (x:=rs) (p:=ruleOk) (B:=4194304*2) (l:=fun k i=>iter (ts:=impl_rulesOk_L4_ts) (R:=Bool) k (impl_rulesOk_L4 (some true)) rs (rs.length:Int) i) (E:=some true) (O:=some false)
  (fun k=>by simp only [iter,impl_rulesOk_L4,ilt_e,cond_false]<;>rfl)
  (fun k i hi hb=>by
   simp only [iter,impl_rulesOk_L4,ilt_n hi,inb_n hi,cond_true,req_t,nth_i hi,implRuleOk_e hb (hr.2 _ (mem_i hi)),Option.bind_some,iadd_n hr.1 hi]
   cases ruleOk rs[i]<;>rfl) k (by have:=hr.1;omega)
 simp only [share,implTeamsOk_e hk hx,implRuleOk_e (show 4194304*2≤k by omega) hq,Option.bind_some]
 cases teamsOk x<;>cases ruleOk q<;>first | rfl | exact h.trans (by cases rs.all ruleOk<;>rfl)
def wideN (x:List GateTeam) (r q:GateRule) (v:Int):Bool:=hasV r v&&((seq r.Kind []||seq r.Kind q.Kind)&&((seq r.Team []||(!seq q.Team []&&underN x 4 q.Team r.Team))&&begins q.Prefix r.Prefix))
theorem implWider_e {k:Nat} {x:List GateTeam} {r q:GateRule} {v:Int} (hk:4194304*2≤k) (hx:x.length≤1048576) (hr:r.sd) (ho:ruleOk r=true) (h1:1≤v) (h2:v≤5):impl_GateRule_wider k r x q v=some (wideN x r q v):=by
 have hh:=implHas_e (k:=k) (by omega) hr ho h1 h2
 unfold impl_GateRule_wider wideN
 have hb:∀ f:Bool→Option Bool,((impl_setOf k r.Verbs).bind fun s=>(impl_verbSet_has k s v).bind f)=f (hasV r v):=fun f=>by
  have:((impl_setOf k r.Verbs).bind fun s=>(impl_verbSet_has k s v).bind f)=((impl_setOf k r.Verbs).bind fun s=>impl_verbSet_has k s v).bind f:=by
   cases impl_setOf k r.Verbs<;>rfl
  rw [this,hh];rfl
 rw [hb]
 simp only [implBegins_e,implUnder_e hk hx,Option.bind_some]
 cases hasV r v<;>cases seq r.Kind []<;>cases seq r.Kind q.Kind<;>cases seq r.Team []<;>cases seq q.Team []<;>cases underN x 4 q.Team r.Team<;>rfl
def lacksN (x:List GateTeam) (rs:List GateRule) (q:GateRule):Int:=(q.Verbs.find? fun v=>!rs.any fun r=>wideN x r q v).getD 0
theorem specLacks_e {k:Nat} {x:List GateTeam} {rs:List GateRule} {q:GateRule} (hk:4194304*4≤k) (hx:x.length≤1048576) (hr:sdS GateRule.sd rs) (hq:q.sd):spec_l4Lacks k x rs q=some (lacksN x rs q):=by
 have inner:∀ (J:List GateTeam→List GateRule→GateRule→Int→Bool→Option Int) (j:Nat) (hj:j < q.Verbs.length) (k:Nat),4194304*3≤k→
   iter (ts:=spec_l4Lacks_L6_ts) (R:=Int) k (spec_l4Lacks_L6 J) x rs q (j:Int) false (0:Int)=J x rs q (j:Int) (rs.any fun r=>wideN x r q q.Verbs[j]):=by
  intro J j hj k hk
  have h:=loop_fold (R:=Option Int) (S:=Bool) (x:=rs) (f:=fun b r=>b||wideN x r q q.Verbs[j]) (B:=4194304*2) (l:=fun k b i=>iter (ts:=spec_l4Lacks_L6_ts) (R:=Int) k (spec_l4Lacks_L6 J) x rs q (j:Int) b i) (J:=fun b=>J x rs q (j:Int) b) (fun _ _=>True)
   (fun k b _=>by simp only [iter,spec_l4Lacks_L6,ilt_e,cond_false]<;>rfl)
   (fun k i b hi hb _=>⟨by
    simp only [iter,spec_l4Lacks_L6,share,ilt_n hi,inb_n hi,inb_n hj,cond_true,req_t,nth_i hi,nth_i hj,specVerb_e (show 4194304≤k by omega) (hr.2 _ (mem_i hi)),specBegins_e,specUnder_e hb hx,Option.bind_some,iadd_n hr.1 hi,wideN]
    cases hasV rs[i] q.Verbs[j]<;>cases seq rs[i].Kind []<;>cases seq rs[i].Kind q.Kind<;>cases seq rs[i].Team []<;>cases seq q.Team []<;>cases underN x 4 q.Team rs[i].Team<;>cases begins q.Prefix rs[i].Prefix<;>cases b<;>rfl,trivial⟩) k false (by have:=hr.1;omega) trivial
  refine h.trans ?_
  have e:∀ (y:List GateRule) (b:Bool),y.foldl (fun b r=>b||wideN x r q q.Verbs[j]) b=(b||y.any fun r=>wideN x r q q.Verbs[j]):=by
   intro y
   induction y with
   | nil=>intro b;simp
   | cons a r ih=>intro b;rw [List.foldl_cons,ih,List.any_cons,Bool.or_assoc]
  rw [e];rfl
 unfold spec_l4Lacks
 have h:=loop_find (R:=Option Int) (x:=q.Verbs) (p:=fun v=>!rs.any fun r=>wideN x r q v) (B:=4194304*3) (l:=fun k i=>iter (ts:=spec_l4Lacks_L2_ts) (R:=Int) k (spec_l4Lacks_L2 (some 0)) x rs q i) (E:=some 0) (O:=fun v=>some v)
  (fun k=>by simp only [iter,spec_l4Lacks_L2,ilt_e,cond_false]<;>rfl)
  (fun k i hi hb=>by
   simp only [iter,spec_l4Lacks_L2,share,ilt_n hi,cond_true]
   refine (inner _ i hi k hb).trans ?_
   simp only [inb_n hi,nth_i hi,req_t,iadd_n hq.1.1 hi]<;>rfl) k (by have:=hq.1.1;omega)
 simp only [share]
 refine h.trans ?_
 unfold lacksN
 cases q.Verbs.find? fun v=>!rs.any fun r=>wideN x r q v<;>rfl
theorem implLacks_e {k:Nat} {x:List GateTeam} {rs:List GateRule} {q:GateRule} (hk:4194304*4≤k) (hx:x.length≤1048576) (hr:sdS GateRule.sd rs) (hq:q.sd) (ho:rs.all ruleOk=true) (hoq:ruleOk q=true):impl_bare k x rs q=some (lacksN x rs q):=by
 have inner:∀ (J1:List GateTeam→List GateRule→GateRule→List Int→Int→Int→Option Int) (J2:Int→Option Int) (l:List Int) (n j:Int) (v:Int) (h1:1≤v) (h2:v≤5) (k:Nat),4194304*3≤k→
   iter (ts:=impl_bare_L5_ts) (R:=Int) k (impl_bare_L5 J1 J2) x rs q v l n j rs (rs.length:Int) (0:Int)=cond (rs.any fun r=>wideN x r q v) (J1 x rs q l n j) (J2 v):=by
  intro J1 J2 l n j v h1 h2 k hk
  exact loop_any (R:=Option Int) (x:=rs) (p:=fun r=>wideN x r q v) (B:=4194304*2) (l:=fun k i=>iter (ts:=impl_bare_L5_ts) (R:=Int) k (impl_bare_L5 J1 J2) x rs q v l n j rs (rs.length:Int) i) (E:=J2 v) (O:=J1 x rs q l n j)
   (fun k=>by simp only [iter,impl_bare_L5,ilt_e,cond_false]<;>rfl)
   (fun k i hi hb=>by
    simp only [iter,impl_bare_L5,ilt_n hi,inb_n hi,cond_true,req_t,nth_i hi,implWider_e hb hx (hr.2 _ (mem_i hi)) (List.all_eq_true.1 ho _ (mem_i hi)) h1 h2,Option.bind_some,iadd_n hr.1 hi]<;>rfl) k (by have:=hr.1;omega)
 unfold impl_bare
 have h:=loop_find (R:=Option Int) (x:=q.Verbs) (p:=fun v=>!rs.any fun r=>wideN x r q v) (B:=4194304*3) (l:=fun k i=>iter (ts:=impl_bare_L2_ts) (R:=Int) k (impl_bare_L2 (some 0)) x rs q q.Verbs (q.Verbs.length:Int) i) (E:=some 0) (O:=fun v=>some v)
  (fun k=>by simp only [iter,impl_bare_L2,ilt_e,cond_false]<;>rfl)
  (fun k i hi hb=>by
   obtain ⟨h1,h2⟩:=ruleOk_verbs hoq _ (mem_i hi)
   rw [← nth_i (d:=(0:Int)) hi] at h1 h2
   simp only [iter,impl_bare_L2,share,ilt_n hi,inb_n hi,cond_true]
   refine (inner _ _ _ _ _ _ h1 h2 k hb).trans ?_
   rw [iadd_n hq.1.1 hi,nth_i hi]
   cases rs.any fun r=>wideN x r q q.Verbs[i]<;>rfl) k (by have:=hq.1.1;omega)
 simp only [share]
 refine h.trans ?_
 unfold lacksN
 cases q.Verbs.find? fun v=>!rs.any fun r=>wideN x r q v<;>rfl
def rulesOf (b:GateBook):List GateRule:=b.Grants.map (·.Rule)
theorem rules_fold:∀ (l:List GateGrant) (acc:List GateRule),l.foldl (fun (acc:List GateRule) g=>acc++[g.Rule]) acc=acc++l.map (·.Rule)
 | [],acc=>by simp
 | g::l,acc=>by rw [List.foldl_cons,rules_fold l];simp
theorem rulesOf_sd {b:GateBook} (hb:b.sd):sdS GateRule.sd (rulesOf b):=by
 obtain ⟨-,-,-,-,hg,-⟩:=hb
 refine ⟨by simp only [rulesOf,List.length_map];exact hg.1,fun r hr=>?_⟩
 obtain ⟨g,h1,rfl⟩:=List.mem_map.1 hr
 exact (hg.2 g h1).2.2.2
theorem book_rules {w:GateLaw} {b:GateBook} (h:bookOk w b=true):∀ g,g∈b.Grants→ruleOk g.Rule=true:=by
 simp only [bookOk,grantsOk,Bool.and_eq_true] at h
 exact grants_rules h.2.2.1.2
theorem world_book {w:GateLaw} {x:GateWorld} (h:worldOk w x=true):bookOk w x.Book=true:=by
 simp only [worldOk,Bool.and_eq_true] at h;exact h.1.1
def safeG (w:GateLaw) (f:GateBook) (g:GateGrant):Bool:=ieq (lacksN w.Teams (rulesOf f) g.Rule) 0
def safeM (w:GateLaw) (f:GateBook) (x:GateWorld):Bool:=(bookOk w f&&worldOk w x)&&x.Book.Grants.all (safeG w f)
theorem specSafe_e {k:Nat} {w:GateLaw} {f:GateBook} {x:GateWorld} (hk:4194304*14≤k) (hw:w.sd) (hf:f.sd) (hx:x.sd):spec_GateSafe k w f x=some (safeM w f x):=by
 have hx':=hx
 have hrs:=rulesOf_sd hf
 have hf':=hf
 obtain ⟨-,-,-,-,hg,-⟩:=hf
 obtain ⟨⟨-,-,-,-,hy,-⟩,-⟩:=hx
 have hgl:=hg.1
 unfold spec_GateSafe safeM
 have h5:=fun J:GateLaw→GateWorld→List GateRule→Option Bool=>loop_fold (S:=List GateRule) (x:=f.Grants) (f:=fun (acc:List GateRule) g=>acc++[g.Rule]) (B:=0) (l:=fun k acc i=>iter (ts:=spec_GateSafe_L5_ts) (R:=Bool) k (spec_GateSafe_L5 J) w f x i acc) (J:=fun acc=>J w x acc) (fun i acc=>acc.length≤i)
  (fun k acc _=>by simp only [iter,spec_GateSafe_L5,ilt_e,cond_false]<;>rfl)
  (fun k i acc hi _ hI=>by
   simp only [iter,spec_GateSafe_L5,ilt_n hi,inb_n hi,cond_true,req_t,nth_i hi,iadd_n hg.1 hi]
   rw [appB_t (by simp;omega) (by omega)]
   exact ⟨rfl,by simp only [List.length_append,List.length_singleton];omega⟩) k [] (by omega) (by simp)
 have h9:=loop_all (R:=Option Bool) (x:=x.Book.Grants) (p:=safeG w f) (B:=4194304*4) (l:=fun k i=>iter (ts:=spec_GateSafe_L9_ts) (R:=Bool) k (spec_GateSafe_L9 (some true)) w x i (rulesOf f)) (E:=some true) (O:=some false)
  (fun k=>by simp only [iter,spec_GateSafe_L9,ilt_e,cond_false]<;>rfl)
  (fun k i hi hb=>by
   have hgr:=(hy.2 _ (mem_i hi)).2.2.2
   simp only [iter,spec_GateSafe_L9,ilt_n hi,inb_n hi,cond_true,req_t,nth_i hi,specLacks_e hb hw.2.2.1 hrs hgr,Option.bind_some,iadd_n hy.1 hi,safeG]
   cases ieq (lacksN w.Teams (rulesOf f) x.Book.Grants[i].Rule) 0<;>rfl) k (by have:=hy.1;omega)
 simp only [share,specBookOk_e (show 4194304*12≤k by omega) hw hf',specWorld_e hk hw hx',Option.bind_some]
 cases bookOk w f with
 | false=>rfl
 | true=>
  cases worldOk w x with
  | false=>rfl
  | true=>
   refine (h5 _).trans ?_
   rw [rules_fold,List.nil_append]
   exact h9.trans (by cases x.Book.Grants.all (safeG w f)<;>rfl)
theorem implSafe_e {k:Nat} {w:GateLaw} {f:GateBook} {x:GateWorld} (hk:4194304*14≤k) (hw:w.sd) (hf:f.sd) (hx:x.sd):impl_GateSafe k w f x=some (safeM w f x):=by
 have hx':=hx
 have hrs:=rulesOf_sd hf
 have hf':=hf
 obtain ⟨-,-,-,-,hg,-⟩:=hf
 obtain ⟨⟨-,-,-,-,hy,-⟩,-⟩:=hx
 have hgl:=hg.1
 unfold impl_GateSafe safeM
 have h5:=fun J:GateLaw→GateWorld→List GateRule→Option Bool=>loop_fold (S:=List GateRule) (x:=f.Grants) (f:=fun (acc:List GateRule) g=>acc++[g.Rule]) (B:=0) (l:=fun k acc i=>iter (ts:=impl_GateSafe_L5_ts) (R:=Bool) k (impl_GateSafe_L5 J) w x f.Grants (f.Grants.length:Int) i acc) (J:=fun acc=>J w x acc) (fun i acc=>acc.length≤i)
  (fun k acc _=>by simp only [iter,impl_GateSafe_L5,ilt_e,cond_false]<;>rfl)
  (fun k i acc hi _ hI=>by
   simp only [iter,impl_GateSafe_L5,ilt_n hi,inb_n hi,cond_true,req_t,nth_i hi,iadd_n hg.1 hi]
   rw [appB_t (by simp;omega) (by omega)]
   exact ⟨rfl,by simp only [List.length_append,List.length_singleton];omega⟩) k [] (by omega) (by simp)
 simp only [share,implBookOk_e (show 4194304*12≤k by omega) hw hf',implWorld_e hk hw hx',Option.bind_some]
 cases hbo:bookOk w f with
 | false=>rfl
 | true=>
  cases hwo:worldOk w x with
  | false=>rfl
  | true=>
   have hro:(rulesOf f).all ruleOk=true:=List.all_eq_true.2 fun r hr=>by
    obtain ⟨g,h1,rfl⟩:=List.mem_map.1 hr
    exact book_rules hbo g h1
   have ht:=lawOk_teams (bookOk_law hbo)
   have h10:=loop_all (R:=Option Bool) (x:=x.Book.Grants) (p:=safeG w f) (B:=4194304*4) (l:=fun k i=>iter (ts:=impl_GateSafe_L10_ts) (R:=Bool) k (impl_GateSafe_L10 (some true)) w x.Book.Grants (x.Book.Grants.length:Int) i (rulesOf f)) (E:=some true) (O:=some false)
    (fun k=>by simp only [iter,impl_GateSafe_L10,ilt_e,cond_false]<;>rfl)
    (fun k i hi hb=>by
     have hgr:=(hy.2 _ (mem_i hi)).2.2.2
     have hok:=book_rules (world_book hwo) _ (mem_i hi)
     have hall:allOk w.Teams (rulesOf f) x.Book.Grants[i].Rule=true:=by unfold allOk;rw [ht,hok,hro];rfl
     have hcov:impl_GateCovers k w.Teams (rulesOf f) x.Book.Grants[i].Rule=some (safeG w f x.Book.Grants[i]):=by
      unfold impl_GateCovers
      rw [implAllOk_e (by omega) hw.2.2 hrs hgr,hall]
      simp only [Option.bind_some,cond_true,implLacks_e hb hw.2.2.1 hrs hgr hro hok]
      rfl
     simp only [iter,impl_GateSafe_L10,ilt_n hi,inb_n hi,cond_true,req_t,nth_i hi,hcov,Option.bind_some,iadd_n hy.1 hi]
     cases safeG w f x.Book.Grants[i]<;>rfl) k (by have:=hy.1;omega)
   refine (h5 _).trans ?_
   rw [rules_fold,List.nil_append]
   exact h10.trans (by cases x.Book.Grants.all (safeG w f)<;>rfl)
end Go.Proofs.YtenfhlfofhjcoaaGreatDoor.Pu
