/- Plain words and laws. No condition. -/
import Derived.Test.YtjkbbdldmdajkaaGreatDoorMw2
set_option linter.unusedSimpArgs false
set_option linter.unusedVariables false
namespace Go.Proofs.YtjkbbdldmdajkaaGreatDoor.Pu
open Go Go.RowKit Go.Proofs.YtjkbbdldmdajkaaGreatDoor.c_ Go.Proofs.YtjkbbdldmdajkaaGreatDoor.Fn
def ZA (q:Option aF) (g:aF):Bool:=match q with
 | none=>true
 | some p=>!b8 g.Number p.Number
def Cc (b:aG) (q:Option aF) (g:aF):Bool:=(b8 1 g.Number&&b8 g.Number b.dP)&&(ZA q g&&(cB g.To&&(B9 g.By&&Ap g.cJ)))
def yQ (b:aG):Bool:=b8 (b.bI.length:Int) 24&&chain (Cc b) none b.bI
theorem Q8 {k:Nat} {b:aG} (hk:4194304*3≤k) (hb:b.sd):qp k b=some (yQ b):=by
 obtain ⟨-,-,-,-,hg,-⟩:=hb;unfold qp yQ;have h:=fE (R:=Option Bool) (x:=b.bI) (p:=Cc b) (B:=4194304*2) (l:=fun k i=>iter (ts:=tR) (R:=Bool) k (l7 (some true)) b i) (E:=some true) (O:=some false)
  (fun k=>by simp only [iter,l7,ck,cond_false]<;>rfl)
  (fun k i hi cl=>by
   obtain ⟨-,g1,g2,g3⟩:=hg.2 _ (dJ hi);simp only [iter,l7,share,cf hi,bM hi,cond_true,bL,bR hi,LO,ez (show 4194304≤k by omega) g1,ez (show 4194304≤k by omega) g2,QP (show 4194304*2≤k by omega) g3,Option.bind_some,bQ hg.1 hi,Cc,B9];rcases Nat.eq_zero_or_pos i with rfl | h0
   ·simp only [sZ,mm,ZA];cases b8 1 b.bI[0].Number&&b8 b.bI[0].Number b.dP<;>cases cB b.bI[0].To<;>cases seq b.bI[0].By []<;>cases cB b.bI[0].By<;>cases Ap b.bI[0].cJ<;>rfl
   ·have di:i-1 < b.bI.length:=by omega
    simp only [z0 h0,q9 h0 (show i≤1048576 by have:=hg.1;omega),bM di,cond_true,bL,bR di,mn h0 hi,ZA];cases b8 1 b.bI[i].Number&&b8 b.bI[i].Number b.dP<;>cases b8 b.bI[i].Number b.bI[i-1].Number<;>cases cB b.bI[i].To<;>cases seq b.bI[i].By []<;>cases cB b.bI[i].By<;>cases Ap b.bI[i].cJ<;>rfl) k (by have:=hg.1;omega)
 simp only [share,cL];cases b8 (b.bI.length:Int) 24 with
 | false=>rfl
 | true=>exact h.trans (by cases chain (Cc b) none b.bI<;>rfl)
theorem Q9 {k:Nat} {b:aG} (hk:4194304*3≤k) (hb:b.sd):gR k b=some (yQ b):=by
 obtain ⟨-,-,-,-,hg,-⟩:=hb;unfold gR yQ;have h:=fE (R:=Option Bool) (x:=b.bI) (p:=Cc b) (B:=4194304*2) (l:=fun k i=>iter (ts:=mP) (R:=Bool) k (fx (some true)) b b.bI (b.bI.length:Int) i) (E:=some true) (O:=some false)
  (fun k=>by simp only [iter,fx,ck,cond_false]<;>rfl)
  (fun k i hi cl=>by
   obtain ⟨-,g1,g2,g3⟩:=hg.2 _ (dJ hi);simp only [iter,fx,share,cf hi,bM hi,cond_true,bL,bR hi,f_ (show 4194304≤k by omega) g1,f_ (show 4194304≤k by omega) g2,QQ (show 4194304*2≤k by omega) g3,Option.bind_some,bQ hg.1 hi,Cc,B9];rw [cL b.bI[i].Number,cL b.dP];rcases Nat.eq_zero_or_pos i with rfl | h0
   ·simp only [sZ,mm,ZA];cases b8 1 b.bI[0].Number<;>cases b8 b.bI[0].Number b.dP<;>cases cB b.bI[0].To<;>cases seq b.bI[0].By []<;>cases cB b.bI[0].By<;>cases Ap b.bI[0].cJ<;>rfl
   ·have di:i-1 < b.bI.length:=by omega
    simp only [z0 h0,q9 h0 (show i≤1048576 by have:=hg.1;omega),bM di,cond_true,bL,bR di,mn h0 hi,ZA];cases b8 1 b.bI[i].Number<;>cases b8 b.bI[i].Number b.dP<;>cases b8 b.bI[i].Number b.bI[i-1].Number<;>cases cB b.bI[i].To<;>cases seq b.bI[i].By []<;>cases cB b.bI[i].By<;>cases Ap b.bI[i].cJ<;>rfl) k (by have:=hg.1;omega)
 simp only [share,cL];cases b8 (b.bI.length:Int) 24 with
 | false=>rfl
 | true=>exact h.trans (by cases chain (Cc b) none b.bI<;>rfl)
def En (res:Nm) (q:aC×Nm):Int:=cond (bH q.1.Kind 1&&seq q.1.bE res) ((num q.2).getD 0) 0
theorem Cd (res:Nm) (q:aC×Nm):0≤En res q∧En res q < 10000000:=by
 unfold En;cases bH q.1.Kind 1&&seq q.1.bE res with
 | false=>simp only [cond_false];exact ⟨by decide,by decide⟩
 | true=>
  cases hn:num q.2 with
  | none=>exact ⟨by decide,by decide⟩
  | some v=>exact E_ hn
def wu (w:aL) (o:aA) (res:Nm):Int:=cond ((cw w.cg o).isSome&&!seq res []) ((((cw w.cg o).getD []).zip o.aR).foldl (fun s q=>s+En res q) (cond (seq res o.Kind) 1 0)) 0
theorem M5 {α:Type} {f:α→Int} {M:Int} (hf:∀ a,0≤f a∧f a < M):∀ (l:List α) (s:Int),0≤s→0≤l.foldl (fun s q=>s+f q) s∧l.foldl (fun s q=>s+f q) s≤s+M*(l.length:Int)
 | [],s,h=>by simp [h]
 | a::r,s,h=>by
  have:=M5 hf r (s+f a) (by have:=hf a;omega);have h2:=hf a;have e:M*((a::r).length:Int)=M*(r.length:Int)+M:=by rw [List.length_cons];push_cast;rw [Int.mul_add,Int.mul_one]
  rw [List.foldl_cons,e];omega
theorem Ce {w:aL} {o:aA} {res:Nm} (ho:o.aR.length≤1048576):0≤wu w o res∧wu w o res≤10485760000001:=by
 unfold wu;cases (cw w.cg o).isSome&&!seq res [] with
 | false=>simp only [cond_false];exact ⟨by decide,by decide⟩
 | true=>
  have h:=M5 (Cd res) (((cw w.cg o).getD []).zip o.aR) (cond (seq res o.Kind) 1 0) (by cases seq res o.Kind<;>decide);have hl:(((cw w.cg o).getD []).zip o.aR).length≤1048576:=by simp;omega
  have hc:(cond (seq res o.Kind) 1 0:Int)≤1:=by cases seq res o.Kind<;>decide
  simp only [cond_true];omega
theorem Q_ {k:Nat} {w:aL} {o:aA} {res:Nm} (hk:4194304*2≤k) (hw:w.cg.length≤1048576) (ho:o.aR.length≤1048576):qw k w o res=some (wu w o res):=by
 unfold qw wu;rw [s6 (by omega) hw];simp only [Option.bind_some,share];cases hf:cw w.cg o with
 | none=>rfl
 | some fs=>
  have hl:=(jD hf).1;have hz:=Fg (a:=fs) (b:=o.aR) (by omega);simp only [Option.isSome_some,Option.getD_some,Bool.not_true,Bool.true_and,cond_false];cases hr:seq res [] with
  | true=>rfl
  | false=>
   have h:=fun n0:Int=>fun (h0:0≤n0∧n0≤1)=>fD (S:=Int) (x:=fs.zip o.aR) (f:=fun s q=>s+En res q) (B:=4194304) (l:=fun k s i=>iter (ts:=tS) (R:=Int) k (l8 fun v=>some v) res o fs s i) (J:=fun s=>some s) (fun i s=>0≤s∧s≤1+10000000*(i:Int))
    (fun k s _=>by simp only [hz,iter,l8,ck,cond_false]<;>rfl)
    (fun k i s hi hb hI=>by
     rw [hz] at hi;have di:i < o.aR.length:=by omega
     have hw1:=Cd res (fs[i],o.aR[i]);refine ⟨?_,by rw [List.getElem_zip];push_cast;omega⟩;simp only [iter,l8,share,cf hi,bM hi,bM di,cond_true,bL,bR hi,bR di,bQ (show fs.length≤1048576 by omega) hi,MQ _ hb,Option.bind_some,List.getElem_zip,En];cases c1:bH fs[i].Kind 1 with
     | false=>simp only [cond_false,Bool.false_and,Int.add_zero]<;>rfl
     | true=>
      cases c2:seq fs[i].bE res with
      | false=>simp only [cond_false,cond_true,Bool.and_false,Int.add_zero]<;>rfl
      | true=>
       cases hn:num o.aR[i] with
       | none=>simp only [cond_true,Bool.and_self,Option.getD_none,Int.add_zero];rfl
       | some v=>
        have:=E_ hn;simp only [cond_true,Bool.and_self,Option.getD_some];by_cases hv:0 < v
        ·rw [hY hv,t_ (by omega) (by omega)];rfl
        ·rw [dz hv,show v=0 by omega,Int.add_zero];rfl) k n0 (by rw [hz];omega) ⟨h0.1,by push_cast;omega⟩
   cases seq res o.Kind with
   | true=>exact h 1 ⟨by decide,by decide⟩
   | false=>exact h 0 ⟨by decide,by decide⟩
theorem Ra {k:Nat} {w:aL} {o:aA} {res:Nm} (hk:4194304*2≤k) (hw:w.cg.length≤1048576) (ho:o.aR.length≤1048576):qG k w o res=some (wu w o res):=by
 unfold qG wu;rw [xD (by omega) hw];simp only [Option.bind_some,share];cases hf:cw w.cg o with
 | none=>rfl
 | some fs=>
  have hl:=(jD hf).1;have hz:=Fg (a:=fs) (b:=o.aR) (by omega);simp only [Option.isSome_some,Option.getD_some,Bool.not_true,Bool.true_and,cond_false];cases hr:seq res [] with
  | true=>rfl
  | false=>
   have h:=fun n0:Int=>fun (h0:0≤n0∧n0≤1)=>fD (S:=Int) (x:=fs.zip o.aR) (f:=fun s q=>s+En res q) (B:=4194304) (l:=fun k s i=>iter (ts:=tZ) (R:=Int) k (mi fun v=>some v) res o s fs (fs.length:Int) i) (J:=fun s=>some s) (fun i s=>0≤s∧s≤1+10000000*(i:Int))
    (fun k s _=>by simp only [hz,iter,mi,ck,cond_false]<;>rfl)
    (fun k i s hi hb hI=>by
     rw [hz] at hi;have di:i < o.aR.length:=by omega
     have hw1:=Cd res (fs[i],o.aR[i]);refine ⟨?_,by rw [List.getElem_zip];push_cast;omega⟩;simp only [iter,mi,share,cf hi,bM hi,bM di,cond_true,bL,bR hi,bR di,bQ (show fs.length≤1048576 by omega) hi,PO _ hb,Option.bind_some,List.getElem_zip,En];cases c1:bH fs[i].Kind 1 with
     | false=>simp only [cond_false,Bool.false_and,Int.add_zero,Bool.not_false,cond_true]<;>rfl
     | true=>
      cases c2:seq fs[i].bE res with
      | false=>simp only [cond_false,cond_true,Bool.and_false,Int.add_zero,Bool.not_false,Bool.not_true]<;>rfl
      | true=>
       cases hn:num o.aR[i] with
       | none=>
        have e0:s+0=aP .i64 s 0:=(t_ (by omega) (by omega)).symm;simp only [cond_true,Bool.and_self,Option.getD_none,e0]<;>rfl
       | some v=>
        have:=E_ hn;have e0:s+v=aP .i64 s v:=(t_ (by omega) (by omega)).symm;simp only [cond_true,Bool.and_self,Option.getD_some,e0]<;>rfl) k n0 (by rw [hz];omega) ⟨h0.1,by push_cast;omega⟩
   cases seq res o.Kind with
   | true=>exact h 1 ⟨by decide,by decide⟩
   | false=>exact h 0 ⟨by decide,by decide⟩
def M6 (w:aL) (dO res:Nm) (o:aA):Int:=cond (uH w.dY 4 o.aX dO) (wu w o res) 0
def rL (w:aL) (b:aG) (dO res:Nm):Int:=b.aO.foldl (fun s o=>s+M6 w dO res o) 0
theorem M7 {k:Nat} {w:aL} {b:aG} {dO res:Nm} (hk:4194304*3≤k) (hw:w.sd) (hb:b.sd) (hl:b.aO.length≤40):pU k w b dO res=some (rL w b dO res):=by
 obtain ⟨-,-,-,P4,-⟩:=hb;unfold pU rL;simp only [share];exact fD (S:=Int) (x:=b.aO) (f:=fun s o=>s+M6 w dO res o) (B:=4194304*2) (l:=fun k s i=>iter (ts:=w_) (R:=Int) k (oX fun v=>some v) dO res w b s i) (J:=fun s=>some s) (fun i s=>0≤s∧s≤10485760000001*(i:Int))
  (fun k s _=>by simp only [iter,oX,ck,cond_false]<;>rfl)
  (fun k i s hi hb hI=>by
   have hv:=(P4.2 _ (dJ hi)).2.2.2.1.1;have hr:=Ce (w:=w) (res:=res) hv;simp only [iter,oX,share,cf hi,bM hi,cond_true,bL,bR hi,bQ P4.1 hi,SS hb hw.2.2.1,Q_ hb hw.1.1 hv,Option.bind_some,M6];cases uH w.dY 4 b.aO[i].aX dO with
   | false=>exact ⟨by simp only [cond_false,Int.add_zero]<;>rfl,by simp only [cond_false];push_cast;omega⟩
   | true=>
    have e0:s+wu w b.aO[i] res=aP .i64 s (wu w b.aO[i] res):=(t_ (by omega) (by omega)).symm;exact ⟨by simp only [cond_true,e0]<;>rfl,by simp only [cond_true];push_cast;omega⟩) k 0 (by omega) (by simp)
theorem M8 {k:Nat} {w:aL} {b:aG} {dO res:Nm} (hk:4194304*3≤k) (hw:w.sd) (hb:b.sd) (hl:b.aO.length≤40):pL k w b dO res=some (rL w b dO res):=by
 obtain ⟨-,-,-,P4,-⟩:=hb;unfold pL rL;simp only [share];exact fD (S:=Int) (x:=b.aO) (f:=fun s o=>s+M6 w dO res o) (B:=4194304*2) (l:=fun k s i=>iter (ts:=xd) (R:=Int) k (o6 fun v=>some v) dO res w s b.aO (b.aO.length:Int) i) (J:=fun s=>some s) (fun i s=>0≤s∧s≤10485760000001*(i:Int))
  (fun k s _=>by simp only [iter,o6,ck,cond_false]<;>rfl)
  (fun k i s hi hb hI=>by
   have hv:=(P4.2 _ (dJ hi)).2.2.2.1.1;have hr:=Ce (w:=w) (res:=res) hv;simp only [iter,o6,share,cf hi,bM hi,cond_true,bL,bR hi,bQ P4.1 hi,SU hb hw.2.2.1,Ra hb hw.1.1 hv,Option.bind_some,M6];cases uH w.dY 4 b.aO[i].aX dO with
   | false=>exact ⟨by simp only [cond_false,Int.add_zero]<;>rfl,by simp only [cond_false];push_cast;omega⟩
   | true=>
    have e0:s+wu w b.aO[i] res=aP .i64 s (wu w b.aO[i] res):=(t_ (by omega) (by omega)).symm;exact ⟨by simp only [cond_true,e0]<;>rfl,by simp only [cond_true];push_cast;omega⟩) k 0 (by omega) (by simp)
theorem Ll {w:aL} {b:aG} {dO res:Nm} (hb:b.sd) (hl:b.aO.length≤40):0≤rL w b dO res∧rL w b dO res≤419430400000040:=by
 obtain ⟨-,-,-,P4,-⟩:=hb;unfold rL;have:∀ (l:List aA) (s:Int),(∀ o,o∈l→o.aR.length≤1048576)→0≤s→0≤l.foldl (fun s o=>s+M6 w dO res o) s∧l.foldl (fun s o=>s+M6 w dO res o) s≤s+10485760000001*(l.length:Int):=by
  intro l
  induction l with
  | nil=>intro s _ h;simp [h]
  | cons a r ih=>
   intro s h h0;have hr:=Ce (w:=w) (res:=res) (h a (by simp));have hu:0≤M6 w dO res a∧M6 w dO res a≤10485760000001:=by
    unfold M6;cases uH w.dY 4 a.aX dO with
    | false=>simp only [cond_false];exact ⟨by decide,by decide⟩
    | true=>exact hr
   have:=ih (s+M6 w dO res a) (fun o ho=>h o (by simp [ho])) (by omega);rw [List.foldl_cons,List.length_cons]
   push_cast
   omega
 have h:=this b.aO 0 (fun o ho=>(P4.2 o ho).2.2.2.1.1) (by decide);omega
section
variable {α R S:Type} {x:List α} {B:Nat}
theorem Lm {p:Option α→α→Bool} {f:S→α→S} {l:Nat→S→Int→R} {E:S→R} {O:R} (he:∀ k s,l (k+1) s (x.length:Int)=E s)
  (h:∀ k i s (hi:i < x.length),B≤k→l (k+1) s (i:Int)=cond (p (ahead x i) x[i]) (l k (f s x[i]) ((i+1:Nat):Int)) O) (k:Nat) (s:S) (hk:B+x.length+1≤k):l k s 0=cond (chain p none x) (E (x.foldl f s)) O:=by
 have go:∀ m i k s,i+m=x.length→B+m+1≤k→l k s (i:Int)=cond (chain p (ahead x i) (x.drop i)) (E ((x.drop i).foldl f s)) O:=by
  intro m
  induction m with
  | zero=>
   intro i k s h1 h2;obtain rfl:i=x.length:=by omega
   obtain ⟨k,rfl⟩:∃ j,k=j+1:=⟨k-1,by omega⟩;simp [he,chain]
  | succ m ih=>
   intro i k s h1 h2;obtain ⟨k,rfl⟩:∃ j,k=j+1:=⟨k-1,by omega⟩;have hi:i < x.length:=by omega
   rw [h k i s hi (by omega),List.drop_eq_getElem_cons hi];have e:some x[i]=ahead x (i+1):=by simp [ahead]
   simp only [chain,e,List.foldl_cons];cases p (ahead x i) x[i] with
   | true=>simpa using ih (i+1) k _ (by omega) (by omega)
   | false=>rfl
 have:=go x.length 0 k s (by omega) (by omega);simpa [ahead] using this
end
def Eo (a b:cq):Bool:=seq a.dO b.dO&&seq a.resource b.resource
theorem Cf {a b:cq}:Eo a b=true↔a=b:=by
 cases a;cases b;simp only [Eo,Bool.and_eq_true,eP,cq.mk.injEq]
theorem ZB (a b:cq):Eo a b=Eo b a:=by
 rw [Bool.eq_iff_iff,Cf,Cf];exact eq_comm
def Cg (a:cq) (m:List c5):Int:=nN (fun p:c5=>Eo a p.Key) (fun p:c5=>p.Mv) (0:Int) m
def p9 (a:cq) (v:Int) (m:List c5):List c5:=pB (fun p:c5=>Eo a p.Key) m ⟨a,v⟩
theorem ID (a c:cq) (v:Int):∀ (m:List c5),Cg a (p9 c v m)=cond (Eo a c) v (Cg a m)
 | []=>by
  unfold Cg p9;rw [ML,m8]
 | q::m=>by
  unfold Cg p9;rw [J5];cases h:Eo c q.Key with
  | true=>
   have e:=Cf.1 h;rw [cond_true,m8,m8,← e];cases Eo a c<;>rfl
  | false=>
   rw [cond_false,m8,m8];have ih:=ID a c v m;unfold Cg p9 at ih;rw [ih];cases h1:Eo a q.Key with
   | false=>rfl
   | true=>
    have e:=Cf.1 h1;subst e;rw [show Eo q.Key c=false by rw [ZB];exact h];rfl
def Kg (g:aB):cq:=⟨g.aX,g.aN⟩
def UY (q:Option aB) (g:aB):Bool:=match q with
 | none=>true
 | some p=>nK p.aX p.aN g.aX g.aN
def ZC (w:aL) (g:aB):Bool:=(h_ w.dY g.aX).isSome&&(cB g.aN&&(b8 0 g.gG&&(b8 g.gG g.bT&&b8 g.bT 1000000)))
def SV (w:aL) (q:Option aB) (g:aB):Bool:=ZC w g&&UY q g
theorem ZD {a b c d e f:Nm} (h1:nK a b c d=true) (h2:nK c d e f=true):nK a b e f=true:=by
 simp only [nK,Bool.or_eq_true,Bool.and_eq_true] at *;rcases h1 with h1 | ⟨h1,h3⟩
 ·rcases h2 with h2 | ⟨h2,-⟩
  ·exact .inl (QO h1 h2)
  ·rw [← eP.1 h2];exact .inl h1
 ·rw [eP.1 h1];rcases h2 with h2 | ⟨h2,h4⟩
  ·exact .inl h2
  ·exact .inr ⟨h2,QO h3 h4⟩
theorem XI (a b:Nm):nK a b a b=false:=by
 simp only [nK,L_,Bool.and_false,Bool.or_false]
theorem P5:∀ {l:List aB} {q:Option aB},chain UY q l=true→(l.map Kg).Nodup∧∀ p,q=some p→∀ y,y∈l→nK p.aX p.aN y.aX y.aN=true
 | [],_,_=>⟨List.nodup_nil,fun _ _ _ h=>by cases h⟩
 | a::r,q,h=>by
  simp only [chain,Bool.and_eq_true] at h;obtain ⟨h1,h2⟩:=h;obtain ⟨h3,h4⟩:=P5 h2;refine ⟨List.nodup_cons.2 ⟨fun hm=>?_,h3⟩,fun p hp y hy=>?_⟩
  ·obtain ⟨y,hy,e⟩:=List.mem_map.1 hm;have:=h4 a rfl y hy;simp only [Kg,cq.mk.injEq] at e;rw [e.1,e.2,XI] at this;cases this
  ·subst hp;rcases List.mem_cons.1 hy with e | e
   ·exact e▸h1
   ·exact ZD h1 (h4 a rfl y e)
def nM (b:aG) (dO res:Nm):Int:=uE (fun g=>seq g.aX dO&&seq g.aN res) b.aK 0
theorem Hm {k:Nat} {b:aG} {dO res:Nm} (hk:4194304≤k) (hb:b.aK.length≤1048576):mX k b dO res=some (nM b dO res):=by
 unfold mX;simp only [share];exact m9 (x:=b.aK) (p:=fun g=>seq g.aX dO&&seq g.aN res) (l:=fun k i=>iter (ts:=w9) (R:=Int) k (oW (some (-1))) dO res b i)
  (fun k=>by simp only [iter,oW,ck,cond_false]<;>rfl)
  (fun k i hi=>by
   simp only [iter,oW,share,cf hi,bM hi,cond_true,bL,bR hi,bQ hb hi];cases seq b.aK[i].aX dO<;>rfl) k (by omega)
theorem M9 {k:Nat} {b:aG} {dO res:Nm} (hk:4194304≤k) (hb:b.aK.length≤1048576):eC k b dO res=some (nM b dO res):=by
 unfold eC;simp only [share];exact m9 (x:=b.aK) (p:=fun g=>seq g.aX dO&&seq g.aN res) (l:=fun k i=>iter (ts:=og) (R:=Int) k (gy (some (-1))) dO res b.aK (b.aK.length:Int) i)
  (fun k=>by simp only [iter,gy,ck,cond_false]<;>rfl)
  (fun k i hi=>by
   simp only [iter,gy,share,cf hi,bM hi,cond_true,bL,bR hi,bQ hb hi];cases seq b.aK[i].aX dO<;>rfl) k (by omega)
def UZ (z p:aE):Bool:=cond (!seq z.fM p.fM) (slt z.fM p.fM) (nK z.aX z.aN p.aX p.aN)
def U0 (q:Option aE) (p:aE):Bool:=match q with
 | none=>true
 | some z=>UZ z p
def U1 (b:aG) (p:aE):Bool:=cB p.fM&&(!bK (nM b p.aX p.aN) 0&&((b8 1 p.cF&&b8 p.cF 1000000)&&(b8 b.dR p.dX&&b8 p.dX (aP .i64 b.dR 10))))
def M_ (b:aG) (q:Option aE) (p:aE):Bool:=U1 b p&&U0 q p
theorem U2 (k:Nat) (a b:aE):∃ v,qu k a b=some v∧b8 0 v=!UZ a b:=by
 unfold qu UZ;cases h:seq a.fM b.fM with
 | true=>exact ⟨_,by simp only [Bool.not_true,cond_false,Mc];rfl,Q7 ..⟩
 | false=>
  refine ⟨_,by simp only [Bool.not_false,cond_true,Q6];rfl,?_⟩;unfold Q5;rw [h];cases slt a.fM b.fM<;>rfl
theorem Ph (k:Nat) (a b:aE):oF k a b=some (UZ a b):=by
 unfold oF UZ nK;cases seq a.fM b.fM with
 | false=>rfl
 | true=>
  cases h:seq a.aX b.aX with
  | false=>simp
  | true=>rw [Mb h];rfl
def wq (a:cq) (p:aE):Int:=cond (Eo a ⟨p.aX,p.aN⟩) p.cF 0
def SW (b:aG) (a:cq):Int:=b.aW.foldl (fun s p=>s+wq a p) 0
def ac7 (b:aG):Prop:=∀ p,p∈b.aW→1≤p.cF∧p.cF≤1000000
theorem Kh {b:aG}:∀ {l:List aE} {q:Option aE},chain (M_ b) q l=true→∀ p,p∈l→1≤p.cF∧p.cF≤1000000
 | [],_,_,_,h=>by cases h
 | a::r,q,h,p,hp=>by
  simp only [chain,Bool.and_eq_true] at h;rcases List.mem_cons.1 hp with e | e
  ·subst e;simp only [M_,U1,Bool.and_eq_true] at h;obtain ⟨⟨⟨-,-,⟨h1,h2⟩,-⟩,-⟩,-⟩:=h;exact ⟨ot h1,ot h2⟩
  ·exact Kh h.2 p e
theorem IE {a:cq}:∀ (l:List aE) (s:Int),(∀ p,p∈l→1≤p.cF∧p.cF≤1000000)→l.foldl (fun s p=>s+wq a p) s=s+l.foldl (fun s p=>s+wq a p) 0∧0≤l.foldl (fun s p=>s+wq a p) 0∧l.foldl (fun s p=>s+wq a p) 0≤1000000*(l.length:Int)
 | [],s,_=>by simp
 | p::r,s,h=>by
  have h1:0≤wq a p∧wq a p≤1000000:=by
   have:=h p (by simp);unfold wq;cases Eo a ⟨p.aX,p.aN⟩ with
   | true=>simp only [cond_true];omega
   | false=>simp only [cond_false];omega
  have ih1:=IE (a:=a) r (s+wq a p) (fun q hq=>h q (by simp [hq]));have ih2:=IE (a:=a) r (0+wq a p) (fun q hq=>h q (by simp [hq]));rw [List.foldl_cons,List.foldl_cons,List.length_cons]
  push_cast
  omega
theorem XJ {k:Nat} {b:aG} {dO res:Nm} (hk:4194304≤k) (hl:b.aW.length≤1048576) (hg:ac7 b):BQ k b dO res=some (SW b ⟨dO,res⟩):=by
 unfold BQ SW;simp only [share];exact fD (S:=Int) (x:=b.aW) (f:=fun s p=>s+wq ⟨dO,res⟩ p) (B:=0) (l:=fun k s i=>iter (ts:=AP) (R:=Int) k (u4 fun v=>some v) dO res b s i) (J:=fun s=>some s) (fun i s=>0≤s∧s≤1000000*(i:Int))
  (fun k s _=>by simp only [iter,u4,ck,cond_false]<;>rfl)
  (fun k i s hi hb hI=>by
   have hv:=hg _ (dJ hi);have e0:s+b.aW[i].cF=aP .i64 s b.aW[i].cF:=(t_ (by omega) (by omega)).symm;simp only [iter,u4,share,cf hi,bM hi,cond_true,bL,bR hi,bQ hl hi,wq,Eo];rw [Ei dO,Ei res];cases seq b.aW[i].aX dO with
   | false=>exact ⟨by simp only [cond_false,Bool.false_and,Int.add_zero]<;>rfl,by simp only [cond_false,Bool.false_and];push_cast;omega⟩
   | true=>
    cases seq b.aW[i].aN res with
    | false=>exact ⟨by simp only [cond_false,Bool.and_false,Int.add_zero]<;>rfl,by simp only [cond_false,Bool.and_false];push_cast;omega⟩
    | true=>exact ⟨by simp only [cond_true,Bool.and_self,e0]<;>rfl,by simp only [cond_true,Bool.and_self];push_cast;omega⟩) k 0 (by omega) (by simp)
def SX (w:aL) (b:aG) (g:aB):Bool:=bH (rL w b g.aX g.aN+SW b (Kg g)+g.gG) g.bT
def Hn (w:aL) (b:aG):Bool:=(b8 (b.aK.length:Int) 10&&b8 (b.aW.length:Int) 24)&&(chain (M_ b) none b.aW&&(chain (SV w) none b.aK&&b.aK.all (SX w b)))
theorem Pj {w:aL} {b:aG} {k:Nat} (hk:4194304*5≤k) (hw:w.sd) (hb:b.sd) (hl:b.aO.length≤40) (hg:ac7 b):
  iter (ts:=n4) (R:=Bool) k (jv (some true)) w b (0:Int)=some (chain (SV w) none b.aK&&b.aK.all (SX w b)):=by
 have cl:=hb;obtain ⟨-,-,-,-,-,hle,YY⟩:=hb;have h:=fE (R:=Option Bool) (x:=b.aK) (p:=fun q g=>SV w q g&&SX w b g) (B:=4194304*3) (l:=fun k i=>iter (ts:=n4) (R:=Bool) k (jv (some true)) w b i) (E:=some true) (O:=some false)
  (fun k=>by simp only [iter,jv,ck,cond_false]<;>rfl)
  (fun k i hi Zd=>by
   have hgi:=hle.2 _ (dJ hi);simp only [iter,jv,share,cf hi,bM hi,cond_true,bL,bR hi,Iy (show 4194304≤k by omega) hw.2.2.1,ez (show 4194304≤k by omega) hgi.2.1,M7 (dO:=b.aK[i].aX) (res:=b.aK[i].aN) Zd hw cl hl,XJ (dO:=b.aK[i].aX) (res:=b.aK[i].aN) (show 4194304≤k by omega) YY.1 hg,Option.bind_some,bQ hle.1 hi,SV,ZC,cL,SX,Kg];have hu:=Ll (w:=w) (dO:=b.aK[i].aX) (res:=b.aK[i].aN) cl hl;have ho:=(IE (a:=⟨b.aK[i].aX,b.aK[i].aN⟩) b.aW 0 hg).2;have JH:0≤SW b ⟨b.aK[i].aX,b.aK[i].aN⟩∧SW b ⟨b.aK[i].aX,b.aK[i].aN⟩≤1000000*(b.aW.length:Int):=ho;have hpl:=YY.1;cases (h_ w.dY b.aK[i].aX).isSome with
   | false=>rfl
   | true=>
    cases cB b.aK[i].aN with
    | false=>rfl
    | true=>
     cases f1:b8 0 b.aK[i].gG with
     | false=>rfl
     | true=>
      cases f2:b8 b.aK[i].gG b.aK[i].bT with
      | false=>rfl
      | true=>
       cases f3:b8 b.aK[i].bT 1000000 with
       | false=>rfl
       | true=>
        have f1':=ot f1;have f2':=ot f2;have f3':=ot f3;rw [t_ (m:=rL w b b.aK[i].aX b.aK[i].aN) (by omega) (by omega),t_ (by omega) (by omega)];rcases Nat.eq_zero_or_pos i with rfl | h0
        ·simp only [Bool.not_true,cond_false,C8 (show (((0:Nat):Int))≤0 by omega),mm,UY,Bool.and_self,Bool.true_and];cases bH (rL w b b.aK[0].aX b.aK[0].aN+SW b ⟨b.aK[0].aX,b.aK[0].aN⟩+b.aK[0].gG) b.aK[0].bT<;>rfl
        ·have di:i-1 < b.aK.length:=by omega
         simp only [Bool.not_true,Bool.not_false,cond_true,cond_false,St (show ¬ ((i:Int))≤0 by omega),q9 h0 (show i≤1048576 by have:=hle.1;omega),bM di,bL,bR di,mn h0 hi,UY,Mc,Option.bind_some,Q7,Bool.and_self,Bool.true_and];cases nK b.aK[i-1].aX b.aK[i-1].aN b.aK[i].aX b.aK[i].aN<;>cases bH (rL w b b.aK[i].aX b.aK[i].aN+SW b ⟨b.aK[i].aX,b.aK[i].aN⟩+b.aK[i].gG) b.aK[i].bT<;>rfl) k (by have:=hle.1;omega)
 rw [uC,uD] at h;exact h.trans (by cases chain (SV w) none b.aK&&b.aK.all (SX w b)<;>rfl)
theorem U3 {k:Nat} {w:aL} {b:aG} (hk:4194304*5≤k) (hw:w.sd) (hb:b.sd) (hl:b.aO.length≤40):u5 k w b=some (Hn w b):=by
 have cl:=hb;obtain ⟨-,-,-,-,-,hle,YY⟩:=hb;unfold u5 Hn;have h:=fun J:aL→aG→Option Bool=>fE (R:=Option Bool) (x:=b.aW) (p:=M_ b) (B:=4194304*2) (l:=fun k i=>iter (ts:=xa) (R:=Bool) k (oY J) w b i) (E:=J w b) (O:=some false)
  (fun k=>by simp only [iter,oY,ck,cond_false]<;>rfl)
  (fun k i hi Zd=>by
   have hpi:=YY.2 _ (dJ hi);simp only [iter,oY,share,cf hi,bM hi,cond_true,bL,bR hi,ez (show 4194304≤k by omega) hpi.1,Hm (show 4194304≤k by omega) hle.1,LO,Option.bind_some,bQ YY.1 hi,M_,U1];rcases Nat.eq_zero_or_pos i with rfl | h0
   ·simp only [sZ,mm,U0];cases cB b.aW[0].fM<;>cases bK (nM b b.aW[0].aX b.aW[0].aN) 0<;>cases b8 1 b.aW[0].cF&&b8 b.aW[0].cF 1000000<;>cases b8 b.dR b.aW[0].dX&&b8 b.aW[0].dX (aP .i64 b.dR 10)<;>rfl
   ·have di:i-1 < b.aW.length:=by omega
    obtain ⟨v,v1,v2⟩:=U2 k b.aW[i-1] b.aW[i];simp only [z0 h0,q9 h0 (show i≤1048576 by have:=YY.1;omega),bM di,cond_true,bL,bR di,mn h0 hi,v1,v2,Option.bind_some,U0];cases cB b.aW[i].fM<;>cases bK (nM b b.aW[i].aX b.aW[i].aN) 0<;>cases b8 1 b.aW[i].cF&&b8 b.aW[i].cF 1000000<;>cases b8 b.dR b.aW[i].dX&&b8 b.aW[i].dX (aP .i64 b.dR 10)<;>cases UZ b.aW[i-1] b.aW[i]<;>rfl) k (by have:=YY.1;omega)
 simp only [share,cL];cases b8 (b.aK.length:Int) 10 with
 | false=>rfl
 | true=>
  cases b8 (b.aW.length:Int) 24 with
  | false=>rfl
  | true=>
   refine (h _).trans ?_;cases hc:chain (M_ b) none b.aW with
   | false=>rfl
   | true=>exact (Pj hk hw cl hl fun p hp=>Kh hc p hp).trans rfl
theorem Wf {α:Type} {p q:α→Bool}:∀ {l:List α},(∀ a,a∈l→p a=q a)→l.all p=l.all q
 | [],_=>rfl
 | a::r,h=>by rw [List.all_cons,List.all_cons,h a (by simp),Wf (l:=r) fun b hb=>h b (by simp [hb])]
def U4 (w:aL) (b:aG) (m:List c5) (g:aB):List c5:=p9 (Kg g) (aP .i64 g.gG (rL w b g.aX g.aN)) m
def rS (p:aE):cq:=⟨p.aX,p.aN⟩
def XK (m:List c5) (p:aE):List c5:=p9 (rS p) (aP .i64 (Cg (rS p) m) p.cF) m
theorem adR {a b:cq} (h:a≠b):Eo a b=false:=by
 cases e:Eo a b with
 | false=>rfl
 | true=>exact absurd (Cf.1 e) h
theorem ZE (a:cq):Eo a a=true:=Cf.2 rfl
theorem Na {w:aL} {b:aG} {a:cq}:∀ (l:List aB) (m:List c5),(∀ g,g∈l→a≠Kg g)→Cg a (l.foldl (U4 w b) m)=Cg a m
 | [],_,_=>rfl
 | g::r,m,h=>by
  rw [List.foldl_cons,Na r _ fun x hx=>h x (by simp [hx])];unfold U4;rw [ID,adR (h g (by simp))];rfl
theorem SY {w:aL} {b:aG}:∀ (l:List aB) (m:List c5),(l.map Kg).Nodup→∀ g,g∈l→Cg (Kg g) (l.foldl (U4 w b) m)=aP .i64 g.gG (rL w b g.aX g.aN)
 | [],_,_,_,h=>by cases h
 | g::r,m,hn,x,hx=>by
  simp only [List.map_cons,List.nodup_cons] at hn;rw [List.foldl_cons];rcases List.mem_cons.1 hx with e | e
  ·subst e;rw [Na r _ fun y hy e=>hn.1 (by rw [e];exact List.mem_map_of_mem hy)];unfold U4;rw [ID,ZE];rfl
  ·exact SY r _ hn.2 x e
theorem SZ {a:cq}:∀ (l:List aE) (m:List c5),(∀ p,p∈l→1≤p.cF∧p.cF≤1000000)→0≤Cg a m→Cg a m+1000000*(l.length:Int)≤9223372036854775807→Cg a (l.foldl XK m)=Cg a m+l.foldl (fun s p=>s+wq a p) 0
 | [],m,_,_,_=>by simp
 | p::r,m,h,h0,h1=>by
  have hp:=h p (by simp);have hr:∀ q,q∈r→1≤q.cF∧q.cF≤1000000:=fun q hq=>h q (by simp [hq]);rw [List.length_cons] at h1
  push_cast at h1
  have hg:Cg a (XK m p)=Cg a m+wq a p:=by
   unfold XK wq;rw [ID];have ek:(⟨p.aX,p.aN⟩:cq)=rS p:=rfl;rw [ek];cases e:Eo a (rS p) with
   | false=>simp only [cond_false,Int.add_zero]
   | true=>
    simp only [cond_true];rw [← Cf.1 e,t_ (by omega) (by omega)]
  have ho:0≤wq a p∧wq a p≤1000000:=by
   unfold wq;cases Eo a ⟨p.aX,p.aN⟩ with
   | true=>simp only [cond_true];omega
   | false=>simp only [cond_false];omega
  rw [List.foldl_cons,SZ r (XK m p) hr (by omega) (by omega),hg,List.foldl_cons,(IE (a:=a) r (0+wq a p) hr).1];omega
theorem U5 {k:Nat} {w:aL} {b:aG} (hk:4194304*5≤k) (hw:w.sd) (hb:b.sd) (hl:b.aO.length≤40):jc k b w=some (Hn w b):=by
 have cl:=hb;obtain ⟨-,-,-,-,-,hle,YY⟩:=hb;unfold jc Hn;have h5:=fun J:aG→List c5→Option Bool=>Lm (R:=Option Bool) (x:=b.aK) (p:=SV w) (f:=U4 w b) (B:=4194304*3) (l:=fun k m i=>iter (ts:=nO) (R:=Bool) k (gi J) b w b.aK (b.aK.length:Int) i m) (E:=fun m=>J b m) (O:=some false)
  (fun k m=>by simp only [iter,gi,ck,cond_false]<;>rfl)
  (fun k i m hi Zd=>by
   have hgi:=hle.2 _ (dJ hi);simp only [iter,gi,share,cf hi,bM hi,cond_true,bL,bR hi,yL (show 4194304≤k by omega) hw.2.2.1,Kf,f_ (show 4194304≤k by omega) hgi.2.1,M8 (dO:=b.aK[i].aX) (res:=b.aK[i].aN) Zd hw cl hl,Option.bind_some,SV,ZC];rw [bQ hle.1 hi,cL b.aK[i].gG,cL b.aK[i].bT,cL 1000000];rcases Nat.eq_zero_or_pos i with rfl | h0
   ·simp only [sZ,mm,UY];cases (h_ w.dY b.aK[0].aX).isSome<;>cases cB b.aK[0].aN<;>cases b8 0 b.aK[0].gG<;>cases b8 b.aK[0].gG b.aK[0].bT<;>cases b8 b.aK[0].bT 1000000<;>rfl
   ·have di:i-1 < b.aK.length:=by omega
    simp only [z0 h0,q9 h0 (show i≤1048576 by have:=hle.1;omega),bM di,cond_true,bL,bR di,mn h0 hi,UY,nK];cases h1:seq b.aK[i-1].aX b.aK[i].aX with
    | true=>
     rw [Mb h1];cases slt b.aK[i-1].aN b.aK[i].aN<;>cases (h_ w.dY b.aK[i].aX).isSome<;>cases cB b.aK[i].aN<;>cases b8 0 b.aK[i].gG<;>cases b8 b.aK[i].gG b.aK[i].bT<;>cases b8 b.aK[i].bT 1000000<;>rfl
    | false=>
     cases slt b.aK[i-1].aX b.aK[i].aX<;>cases (h_ w.dY b.aK[i].aX).isSome<;>cases cB b.aK[i].aN<;>cases b8 0 b.aK[i].gG<;>cases b8 b.aK[i].gG b.aK[i].bT<;>cases b8 b.aK[i].bT 1000000<;>rfl) k [] (by have:=hle.1;omega)
 have h16:=fun (J:aG→List c5→Option Bool) (m:List c5)=>Lm (R:=Option Bool) (x:=b.aW) (p:=M_ b) (f:=XK) (B:=4194304*2) (l:=fun k m i=>iter (ts:=nn) (R:=Bool) k (fL J) b b.aW (b.aW.length:Int) i m) (E:=fun m=>J b m) (O:=some false)
  (fun k m=>by simp only [iter,fL,ck,cond_false]<;>rfl)
  (fun k i m hi Zd=>by
   have hpi:=YY.2 _ (dJ hi);simp only [iter,fL,share,cf hi,bM hi,cond_true,bL,bR hi,M9 (show 4194304≤k by omega) hle.1,f_ (show 4194304≤k by omega) hpi.1,Ph,Option.bind_some,M_,U1];rw [bQ YY.1 hi,cL b.aW[i].cF,cL 1000000,cL b.aW[i].dX,cL (aP .i64 b.dR 10)];rcases Nat.eq_zero_or_pos i with rfl | h0
   ·simp only [sZ,mm,U0];cases cB b.aW[0].fM<;>cases bK (nM b b.aW[0].aX b.aW[0].aN) 0<;>cases b8 1 b.aW[0].cF<;>cases b8 b.aW[0].cF 1000000<;>cases b8 b.dR b.aW[0].dX<;>cases b8 b.aW[0].dX (aP .i64 b.dR 10)<;>rfl
   ·have di:i-1 < b.aW.length:=by omega
    simp only [z0 h0,q9 h0 (show i≤1048576 by have:=YY.1;omega),bM di,cond_true,bL,bR di,mn h0 hi,U0];cases UZ b.aW[i-1] b.aW[i]<;>cases cB b.aW[i].fM<;>cases bK (nM b b.aW[i].aX b.aW[i].aN) 0<;>cases b8 1 b.aW[i].cF<;>cases b8 b.aW[i].cF 1000000<;>cases b8 b.dR b.aW[i].dX<;>cases b8 b.aW[i].dX (aP .i64 b.dR 10)<;>rfl) k m (by have:=YY.1;omega)
 have h26:=fun m:List c5=>gN (R:=Option Bool) (x:=b.aK) (p:=fun g=>bH (Cg (Kg g) m) g.bT) (B:=0) (l:=fun k i=>iter (ts:=nk) (R:=Bool) k (fK (some true)) b.aK (b.aK.length:Int) i m) (E:=some true) (O:=some false)
  (fun k=>by simp only [iter,fK,ck,cond_false]<;>rfl)
  (fun k i hi _=>by
   simp only [iter,fK,cf hi,bM hi,cond_true,bL,bR hi,bQ hle.1 hi];have e:nN (fun p:c5=>(seq b.aK[i].aX p.Key.dO&&(seq b.aK[i].aN p.Key.resource))) (fun p:c5=>p.Mv) (0:Int) m=Cg (Kg b.aK[i]) m:=rfl;rw [e];cases bH (Cg (Kg b.aK[i]) m) b.aK[i].bT<;>rfl) k (by have:=hle.1;omega)
 simp only [share,cL];cases hl1:b8 (b.aK.length:Int) 10 with
 | false=>rfl
 | true=>
  cases Rb:b8 (b.aW.length:Int) 24 with
  | false=>rfl
  | true=>
   refine (h5 _).trans ?_;cases hc:chain (SV w) none b.aK with
   | false=>simp only [Bool.false_and,Bool.and_false];rfl
   | true=>
    refine (h16 _ _).trans ?_;cases hp:chain (M_ b) none b.aW with
    | false=>rfl
    | true=>
     refine (h26 _).trans ?_;have hg:=Kh hp;have adS:chain (fun q g=>ZC w g&&UY q g) none b.aK=true:=hc;rw [uC,uD] at adS;have oy:=List.all_eq_true.1 (Bool.and_eq_true_iff.1 adS).1;have AF:=(P5 (Bool.and_eq_true_iff.1 adS).2).1;have ahE:=ot Rb;rw [Wf (p:=fun g=>bH (Cg (Kg g) (b.aW.foldl XK (b.aK.foldl (U4 w b) []))) g.bT) (q:=SX w b) fun g hgm=>by
      have hu:=Ll (w:=w) (dO:=g.aX) (res:=g.aN) cl hl;have h0:=oy g hgm;simp only [ZC,Bool.and_eq_true] at h0;have f1:=ot h0.2.2.1;have f2:=ot h0.2.2.2.1;have f3:=ot h0.2.2.2.2;have e1:=SY (w:=w) (b:=b) b.aK [] AF g hgm;rw [t_ (by omega) (by omega)] at e1;have e2:=SZ (a:=Kg g) b.aW (b.aK.foldl (U4 w b) []) hg (by omega) (by omega);rw [e2,e1];unfold SX SW
      congr 1
      omega]
     cases b.aK.all (SX w b)<;>rfl
def eA (w:aL) (b:aG):Bool:=(C_ w&&((b8 0 b.vo&&b8 b.vo 1000000)&&((b8 0 b.dR&&b8 b.dR 1000000)&&(b8 0 b.dP&&b8 b.dP b.vo))))&&(pa w b&&(yQ b&&Hn w b))
theorem Fj {w:aL} {b:aG} (h:pa w b=true):b.aO.length≤40:=by
 simp only [pa,Bool.and_eq_true] at h;have:=ot h.1;omega
theorem Ln {w:aL} (h:C_ w=true):gA w.cg w.iO=true:=by
 simp only [C_,Bool.and_eq_true] at h;exact h.1
theorem Ch {k:Nat} {w:aL} {b:aG} (hk:4194304*12≤k) (hw:w.sd) (hb:b.sd):iW k w b=some (eA w b):=by
 unfold iW eA;simp only [share,SE (show 4194304*6≤k by omega) hw,LO,Option.bind_some,Q8 (show 4194304*3≤k by omega) hb];cases hl:C_ w with
 | false=>rfl
 | true=>
  rw [Pf (show 4194304*10≤k by omega) hw hb (Ln hl)];cases b8 0 b.vo&&b8 b.vo 1000000 with
  | false=>rfl
  | true=>
   cases b8 0 b.dR&&b8 b.dR 1000000 with
   | false=>rfl
   | true=>
    cases b8 0 b.dP&&b8 b.dP b.vo with
    | false=>rfl
    | true=>
     cases ho:pa w b with
     | false=>rfl
     | true=>
      rw [U3 (show 4194304*5≤k by omega) hw hb (Fj ho)];cases yQ b<;>rfl
theorem Ci {k:Nat} {w:aL} {b:aG} (hk:4194304*12≤k) (hw:w.sd) (hb:b.sd):iV k w b=some (eA w b):=by
 unfold iV eA;simp only [share,SF (show 4194304*7≤k by omega) hw,Option.bind_some,Q9 (show 4194304*3≤k by omega) hb,cL];cases hl:C_ w with
 | false=>rfl
 | true=>
  rw [Pg hk hw hb (Ln hl)];cases b8 0 b.vo with
  | false=>rfl
  | true=>
   cases b8 b.vo 1000000 with
   | false=>rfl
   | true=>
    cases b8 0 b.dR with
    | false=>rfl
    | true=>
     cases b8 b.dR 1000000 with
     | false=>rfl
     | true=>
      cases b8 0 b.dP with
      | false=>rfl
      | true=>
       cases b8 b.dP b.vo with
       | false=>rfl
       | true=>
        cases ho:pa w b with
        | false=>rfl
        | true=>
         rw [U5 (show 4194304*5≤k by omega) hw hb (Fj ho)];cases yQ b<;>rfl
theorem ac8 {w:aL} (h:C_ w=true):Ix w.dY=true:=by
 simp only [C_,Bool.and_eq_true] at h;exact h.2
theorem adT {w:aL} {b:aG} (h:eA w b=true):C_ w=true:=by
 simp only [eA,Bool.and_eq_true] at h;exact h.1.1
theorem Rc {b:aG}:∀ {l:List aF} {q:Option aF},chain (Cc b) q l=true→∀ g,g∈l→Ap g.cJ=true
 | [],_,_,_,h=>by cases h
 | a::r,q,h,g,hg=>by
  simp only [chain,Bool.and_eq_true] at h;rcases List.mem_cons.1 hg with e | e
  ·subst e;have h1:=h.1;simp only [Cc,Bool.and_eq_true] at h1;exact h1.2.2.2.2
  ·exact Rc h.2 g e
theorem Yd.ge {α:Type} {F:Nat→Option α} {a:α} (C:Nat) (h:∀ k,C≤k→F k=some a):Yd F a:=⟨C,h⟩
theorem Nb (x:List (List UInt8)):fS mo x=x.length:=by
 induction x with
 | nil=>rfl
 | cons a r ih=>simp only [fS,ih,mo,List.length_cons];omega
theorem Lo {α:Type} {w:α→Int} {b:Int} {xs:List α} (hx:xs.length≤1048576) (hb:0≤b) (h:∀ x,x∈xs→w x≤b):fS w xs≤1048576*b:=
 Int.le_trans (ZF h) (Int.mul_le_mul_of_nonneg_right (by omega) hb)
theorem Wg {xs:List aD} (h:lE aD.sd xs):0≤fS dV xs∧fS dV xs≤1200000000000000000:=by
 refine ⟨iz GM xs,Int.le_trans (Lo (b:=1100000000001) h.1 (by omega) fun s hs=>?_) (by omega)⟩;have h2:=Lo (w:=fa) (b:=1048586) (h.2 s hs).2.1 (by omega) fun f hf=>by
  have h3:=((h.2 s hs).2.2 f hf).2.2.2.2.1.1;unfold fa;rw [Nb];omega
 unfold dV;omega
theorem ZG {xs:List aH} (h:lE aH.sd xs):0≤fS fG xs∧fS fG xs≤10000000:=
 ⟨iz IF xs,Int.le_trans (Lo (b:=6) h.1 (by omega) fun s _=>by unfold fG;omega) (by omega)⟩
theorem ZH {xs:List aJ} (h:lE aJ.sd xs):0≤fS gB xs∧fS gB xs≤10000000:=
 ⟨iz IG xs,Int.le_trans (Lo (b:=2) h.1 (by omega) fun s _=>by unfold gB;omega) (by omega)⟩
theorem Nc {xs:List aA} (h:lE aA.sd xs):0≤fS cz xs∧fS cz xs≤10000000000000:=
 ⟨iz yR xs,Int.le_trans (Lo (b:=2097157) h.1 (by omega) fun s hs=>by
  have h1:=(h.2 s hs).2.2.2.1.1;have h2:=(h.2 s hs).2.2.2.2.2.1.1;unfold cz;rw [Nb,Nb];omega) (by omega)⟩
theorem ae8 (xs:List Int):fS wv xs=xs.length:=by
 induction xs with
 | nil=>rfl
 | cons a r ih=>simp only [fS,ih,wv,List.length_cons];omega
theorem Re {xs:List aF} (h:lE aF.sd xs):0≤fS cW xs∧fS cW xs≤10000000000000:=
 ⟨iz As xs,Int.le_trans (Lo (b:=1048582) h.1 (by omega) fun s hs=>by
  have h1:=(h.2 s hs).2.2.2.1.1;unfold cW;rw [ae8];omega) (by omega)⟩
theorem Nd {xs:List aB} (h:lE aB.sd xs):0≤fS cP xs∧fS cP xs≤10000000:=
 ⟨iz yS xs,Int.le_trans (Lo (b:=4) h.1 (by omega) fun s _=>by unfold cP;omega) (by omega)⟩
theorem Rf {xs:List aE} (h:lE aE.sd xs):0≤fS c9 xs∧fS c9 xs≤10000000:=
 ⟨iz At xs,Int.le_trans (Lo (b:=5) h.1 (by omega) fun s _=>by unfold c9;omega) (by omega)⟩
def ZI (x:aL):Int:=fS dV x.cg+fS fG x.iO+fS gB x.dY
def GH (x:aG):Int:=fS cz x.aO+fS cW x.bI+fS cP x.aK+fS c9 x.aW
theorem UB {x:aL} (h:x.sd):0≤ZI x∧ZI x≤1300000000000000000:=by
 have h1:=Wg h.1;have h2:=ZG h.2.1;have h3:=ZH h.2.2;unfold ZI;omega
theorem E9 {x:aG} (h:x.sd):0≤GH x∧GH x≤30000000000000:=by
 have h1:=Nc h.2.2.2.1;have h2:=Re h.2.2.2.2.1;have h3:=Nd h.2.2.2.2.2.1;have h4:=Rf h.2.2.2.2.2.2;unfold GH;omega
def ae9 (m:Int) (x:aL):List aD×List aH×List aJ:=(Cj dV Ho m x.cg,Cj fG Kj (m+fS dV x.cg) x.iO,Cj gB Kk (m+fS dV x.cg+fS fG x.iO) x.dY)
def sY (m:Int) (x:aG):List aA×List aF×List aB×List aE:=(Cj cz rM m x.aO,Cj cW uI (m+fS cz x.aO) x.bI,Cj cP rN (m+fS cz x.aO+fS cW x.bI) x.aK,Cj c9 uJ (m+fS cz x.aO+fS cW x.bI+fS cP x.aK) x.aW)
theorem J3 {k:Nat} {m:Int} {x:aL} (hk:4194304*4≤k) (h:x.sd) (h0:0≤m) (hm:m≤2000000000000000000):
  ie k m x.cg x.iO x.dY=some (m+ZI x,ae9 m x):=by
 have h1:=Wg h.1;have h2:=ZG h.2.1;have h3:=ZH h.2.2;unfold ie ZI ae9;rw [Dx (by omega) h.1 h0 (by omega)];simp only [Option.bind_some];rw [Ep (by omega) h.2.1 (by omega) (by omega)];simp only [Option.bind_some];rw [Er (by omega) h.2.2 (by omega) (by omega)];simp only [Option.bind_some,ca,fb,ni,Int.add_assoc]
theorem uB {k:Nat} {m n1 n2 n3:Int} {x:aG} (hk:4194304*3≤k) (h:x.sd) (h0:0≤m) (hm:m≤4000000000000000000):
  dA k n1 n2 n3 m x.aO x.bI x.aK x.aW=some (m+GH x,sY m x):=by
 have h1:=Nc h.2.2.2.1;have h2:=Re h.2.2.2.2.1;have h3:=Nd h.2.2.2.2.2.1;have h4:=Rf h.2.2.2.2.2.2;unfold dA GH sY;rw [Ck (by omega) h.2.2.2.1 h0 (by omega)];simp only [Option.bind_some];rw [Dy (by omega) h.2.2.2.2.1 (by omega) (by omega)];simp only [Option.bind_some];rw [Cl (by omega) h.2.2.2.2.2.1 (by omega) (by omega)];simp only [Option.bind_some];rw [Dz (by omega) h.2.2.2.2.2.2 (by omega) (by omega)];simp only [Option.bind_some,ca,fb,ni,Int.add_assoc]
abbrev BkT:Type:=Int×Int×Int×List aA×List aF×List aB×List aE
abbrev ZJ:Type:=Int×Int×Int×Int×List aA×List aF×List aB×List aE
def Hq (b:aG):BkT:=(b.vo,b.dR,b.dP,b.aO,b.bI,b.aK,b.aW)
def LN (b:aG) (c:Int):ZJ:=(b.vo,b.dR,b.dP,c,b.aO,b.bI,b.aK,b.aW)
def S0:aG:=⟨0,0,0,[],[],[],[]⟩
theorem Nf {α:Type}:∀ (x s:List α),x.foldl (fun s a=>s++[a]) s=s++x
 | [],s=>by simp
 | a::r,s=>by simp [Nf r]
theorem xJ {α R:Type} {x:List α} {B:Nat} {l:Nat→List α→Int→R} {J:List α→R} (he:∀ k s,l (k+1) s (x.length:Int)=J s)
  (h:∀ k i s (hi:i < x.length),B≤k→s.length≤i→l (k+1) s (i:Int)=l k (s++[x[i]]) ((i+1:Nat):Int)) (k:Nat) (hk:B+x.length+1≤k):l k [] 0=J x:=by
 have:=fD (x:=x) (B:=B) (l:=l) (J:=J) (f:=fun s a=>s++[a]) (fun i s=>s.length≤i) (fun k s _=>he k s)
  (fun k i s hi hb hI=>⟨h k i s hi hb hI,by simp;omega⟩) k [] hk (by simp)
 rw [this,Nf];rfl
theorem XL {b:aG} {a1 a2 a3 a4 a5 a6:Int} {p:List aA} {q:List aF} {r:List aB} {s:List aE} {t:List aA} {u:List aB} {v:List aE} {k:Nat} (hk:4194304≤k) (hb:lE aF.sd b.bI)
  (J:aG→Int→Int→Int→Int→Int→Int→List aA→List aF→List aB→List aE→List aA→List aF→List aB→List aE→Option BkT):
  iter (ts:=pE) (R:=BkT) k (lq J) (0:Int) b a1 a2 a3 a4 a5 a6 p q r s t [] u v=J b a1 a2 a3 a4 a5 a6 p q r s t b.bI u v:=by
 have V7:=hb.1;exact xJ (x:=b.bI) (B:=0) (l:=fun k z i=>iter (ts:=pE) (R:=BkT) k (lq J) i b a1 a2 a3 a4 a5 a6 p q r s t z u v) (J:=fun z=>J b a1 a2 a3 a4 a5 a6 p q r s t z u v)
  (fun k z=>by simp only [iter,lq,ck,cond_false]<;>rfl)
  (fun k i z hi _ hz=>by
   have hv:=(hb.2 _ (dJ hi)).2.2.2.1.1;simp only [iter,lq,Aj,cf hi,bM hi,cond_true,bL,bR hi,bQ V7 hi];rw [hC (by simp only [List.length_nil];omega) (by omega)];simp only [bL,Option.bind_some];rw [hC (by simp only [List.length_singleton];omega) (by omega)];rfl) k (by omega)
theorem XM {b:aG} {a1 a2 a3 a4 a5 a6:Int} {p:List aA} {q:List aF} {r:List aB} {s:List aE} {t:List aF} {u:List aB} {v:List aE} {k:Nat} (hk:4194304≤k) (hb:lE aA.sd b.aO)
  (J:aG→Int→Int→Int→Int→Int→Int→List aA→List aF→List aB→List aE→List aA→List aF→List aB→List aE→Option BkT):
  iter (ts:=pF) (R:=BkT) k (lr J) (0:Int) b a1 a2 a3 a4 a5 a6 p q r s [] t u v=J b a1 a2 a3 a4 a5 a6 p q r s b.aO t u v:=by
 have V7:=hb.1;exact xJ (x:=b.aO) (B:=0) (l:=fun k z i=>iter (ts:=pF) (R:=BkT) k (lr J) i b a1 a2 a3 a4 a5 a6 p q r s z t u v) (J:=fun z=>J b a1 a2 a3 a4 a5 a6 p q r s z t u v)
  (fun k z=>by simp only [iter,lr,ck,cond_false]<;>rfl)
  (fun k i z hi _ hz=>by
   simp only [iter,lr,cf hi,bM hi,cond_true,bL,bR hi,bQ V7 hi,Kd (Ma (hb.2 _ (dJ hi))),Option.bind_some];rw [hC (by simp only [List.length_singleton];omega) (by omega)];rfl) k (by omega)
theorem Kl {k:Nat} {b:aG} (hk:4194304≤k) (hb:b.sd):mW k b=some (Hq b):=by
 obtain ⟨-,-,-,ho,hg,hl,hp⟩:=hb;have hl1:=hl.1;have hp1:=hp.1;unfold mW;simp only [share];refine (XM hk ho _).trans ?_;refine (XL hk hg _).trans ?_;show aZ (mw (([]:List aB).length+b.aK.length) 48) (aZ (mw (([]:List aE).length+b.aW.length) 64) _)=_;rw [hC (by simp only [List.length_nil];omega) (by omega),hC (by simp only [List.length_nil];omega) (by omega)];rfl
theorem Wh {n b:Nat} (hn:n≤1048576) (hb:b≤100000):GV (0:Int) (n:Int) b=true:=by
 have h1:(n:Int)*(b:Int)≤1048576*100000:=Int.mul_le_mul (by omega) (by omega) (by omega) (by omega);simp only [GV,Bool.and_eq_true,decide_eq_true_eq];exact ⟨by omega,by omega,by omega,by omega⟩
theorem IH {α:Type} {x:List α} (h:bH (x.length:Int) (0:Int)=true):x=[]:=by
 simp only [bH,beq_iff_eq] at h;exact List.eq_nil_of_length_eq_zero (by omega)
theorem Wi {n:Nat} {α:Type} {y:Option α}:aZ (bH (n:Int) (n:Int)&&bH (n:Int) (n:Int)) y=y:=by rw [iy];rfl
theorem S3 {k:Nat} {r:bG} (h:r.b_.length≤1048576):jd k r=some (r.Kind,r.aX,r.cU,r.b_):=by
 unfold jd;cases hv:bH (r.b_.length:Int) (0:Int) with
 | true=>rw [IH hv];rfl
 | false=>
  simp only [cond_false];rw [Wd h (by omega),da (by simp)];rfl
theorem abC {k:Nat} {x:List aA} (hk:4194304≤k) (hx:lE aA.sd x):eg k x=some x:=by
 have hx1:=hx.1;unfold eg;cases hv:bH (x.length:Int) (0:Int) with
 | true=>rw [IH hv];rfl
 | false=>
  simp only [cond_false,share];rw [Wh hx1 (by omega)];refine (xJ (x:=x) (B:=0) (l:=fun k z i=>iter (ts:=ir) (R:=List aA) k (dG fun v=>aZ (bH (v.length:Int) (v.length:Int)&&bH (v.length:Int) (v.length:Int)) (some v)) x (x.length:Int) i z) (J:=fun v=>aZ (bH (v.length:Int) (v.length:Int)&&bH (v.length:Int) (v.length:Int)) (some v))
   (fun k z=>by simp only [iter,dG,ck,cond_false]<;>rfl)
   (fun k i z hi _ hz=>by
    simp only [iter,dG,cf hi,bM hi,cond_true,bL,bR hi,bQ hx1 hi,QX (Ma (hx.2 _ (dJ hi))),Option.bind_some];rw [hC (by simp only [List.length_singleton];omega) (by omega)];rfl) k (by omega)).trans Wi
theorem abD {k:Nat} {x:List aF} (hk:4194304≤k) (hx:lE aF.sd x):eL k x=some x:=by
 have hx1:=hx.1;unfold eL;cases hv:bH (x.length:Int) (0:Int) with
 | true=>rw [IH hv];rfl
 | false=>
  simp only [cond_false,share];rw [Wh hx1 (by omega)];refine (xJ (x:=x) (B:=0) (l:=fun k z i=>iter (ts:=iM) (R:=List aF) k (dL fun v=>aZ (bH (v.length:Int) (v.length:Int)&&bH (v.length:Int) (v.length:Int)) (some v)) x (x.length:Int) i z) (J:=fun v=>aZ (bH (v.length:Int) (v.length:Int)&&bH (v.length:Int) (v.length:Int)) (some v))
   (fun k z=>by simp only [iter,dL,ck,cond_false]<;>rfl)
   (fun k i z hi _ hz=>by
    simp only [iter,dL,ng,cf hi,bM hi,cond_true,bL,bR hi,bQ hx1 hi,S3 (hx.2 _ (dJ hi)).2.2.2.1.1,Option.bind_some];rw [hC (by simp only [List.length_singleton];omega) (by omega)];rfl) k (by omega)).trans Wi
theorem abE {k:Nat} {x:List aB} (hk:4194304≤k) (hx:x.length≤1048576):eh k x=some x:=by
 unfold eh;cases hv:bH (x.length:Int) (0:Int) with
 | true=>rw [IH hv];rfl
 | false=>
  simp only [cond_false,share];rw [Wh hx (by omega)];refine (xJ (x:=x) (B:=0) (l:=fun k z i=>iter (ts:=iu) (R:=List aB) k (dH fun v=>aZ (bH (v.length:Int) (v.length:Int)&&bH (v.length:Int) (v.length:Int)) (some v)) x (x.length:Int) i z) (J:=fun v=>aZ (bH (v.length:Int) (v.length:Int)&&bH (v.length:Int) (v.length:Int)) (some v))
   (fun k z=>by simp only [iter,dH,ck,cond_false]<;>rfl)
   (fun k i z hi _ hz=>by
    simp only [iter,dH,iq,cf hi,bM hi,cond_true,bL,bR hi,bQ hx hi,Option.bind_some];rw [hC (by simp only [List.length_singleton];omega) (by omega)];rfl) k (by omega)).trans Wi
theorem abF {k:Nat} {x:List aE} (hk:4194304≤k) (hx:x.length≤1048576):eM k x=some x:=by
 unfold eM;cases hv:bH (x.length:Int) (0:Int) with
 | true=>rw [IH hv];rfl
 | false=>
  simp only [cond_false,share];rw [Wh hx (by omega)];refine (xJ (x:=x) (B:=0) (l:=fun k z i=>iter (ts:=iN) (R:=List aE) k (dM fun v=>aZ (bH (v.length:Int) (v.length:Int)&&bH (v.length:Int) (v.length:Int)) (some v)) x (x.length:Int) i z) (J:=fun v=>aZ (bH (v.length:Int) (v.length:Int)&&bH (v.length:Int) (v.length:Int)) (some v))
   (fun k z=>by simp only [iter,dM,ck,cond_false]<;>rfl)
   (fun k i z hi _ hz=>by
    simp only [iter,dM,iR,cf hi,bM hi,cond_true,bL,bR hi,bQ hx hi,Option.bind_some];rw [hC (by simp only [List.length_singleton];omega) (by omega)];rfl) k (by omega)).trans Wi
theorem Es {k:Nat} {b:aG} (hk:4194304≤k) (hb:b.sd):eD k b=some (Hq b):=by
 obtain ⟨-,-,-,ho,hg,hl,hp⟩:=hb;unfold eD;rw [abC hk ho,abD hk hg,abE hk hl.1,abF hk hp.1];rfl
theorem Hi {k:Nat} {m n1 n2 n3:Int} {x:aG} (hk:4194304*3≤k) (h:x.sd) (h0:0≤m) (hm:m≤4000000000000000000):
  cV k (⟨n1,n2,n3,(sY m x).1,(sY m x).2.1,(sY m x).2.2.1,(sY m x).2.2.2⟩:aG) m=some (m+GH x):=by
 have h1:=Nc h.2.2.2.1;have h2:=Re h.2.2.2.2.1;have h3:=Nd h.2.2.2.2.2.1;have h4:=Rf h.2.2.2.2.2.2;unfold cV GH sY;simp only;rw [Cm (by omega) h.2.2.2.1 h0 (by omega)];simp only [Option.bind_some];rw [Au (by omega)];simp only [cond_false];rw [DA (by omega) h.2.2.2.2.1 (by omega) (by omega)];simp only [Option.bind_some];rw [Au (by omega)];simp only [cond_false];rw [Cn (by omega) h.2.2.2.2.2.1 (by omega) (by omega)];simp only [Option.bind_some];rw [Au (by omega)];simp only [cond_false];rw [DB (by omega) h.2.2.2.2.2.2 (by omega) (by omega)];simp only [Option.bind_some];rw [Au (by omega)];simp only [cond_false,Int.add_assoc]
theorem Fk {n:Int}:jr .i64 n↔-9223372036854775808≤n∧n≤9223372036854775807:=Iff.rfl
theorem Ng (n:Int):jr .i64 (IntKind.i64.wrap n):=by
 simp only [Fk,IntKind.wrap,IntKind.bits,IntKind.signed,Bool.true_and];split<;>rename_i h<;>simp at h<;>omega
theorem Nh (a b:Int):jr .i64 (aP .i64 a b):=Ng _
theorem Ni (a b:Int):jr .i64 (bO .i64 a b):=Ng _
def Nj (b:aG) (d t r:Nm):Int:=uE (fun p=>seq p.fM d&&(seq p.aX t&&seq p.aN r)) b.aW 0
theorem XN {k:Nat} {b:aG} {d t r:Nm} (hk:4194304≤k) (hb:b.aW.length≤1048576):xt k b d t r=some (Nj b d t r):=by
 unfold xt;simp only [share];exact m9 (x:=b.aW) (p:=fun p=>seq p.fM d&&(seq p.aX t&&seq p.aN r)) (l:=fun k i=>iter (ts:=x5) (R:=Int) k (qi (some (-1))) d t r b i)
  (fun k=>by simp only [iter,qi,ck,cond_false]<;>rfl)
  (fun k i hi=>by
   simp only [iter,qi,share,cf hi,bM hi,cond_true,bL,bR hi,bQ hb hi];cases seq b.aW[i].fM d<;>cases seq b.aW[i].aX t<;>rfl) k (by omega)
theorem abG {k:Nat} {b:aG} {d t r:Nm} (hk:4194304≤k) (hb:b.aW.length≤1048576):ko k b d t r=some (Nj b d t r):=by
 unfold ko;simp only [share];exact m9 (x:=b.aW) (p:=fun p=>seq p.fM d&&(seq p.aX t&&seq p.aN r)) (l:=fun k i=>iter (ts:=pt) (R:=Int) k (g0 (some (-1))) d t r b.aW (b.aW.length:Int) i)
  (fun k=>by simp only [iter,g0,ck,cond_false]<;>rfl)
  (fun k i hi=>by
   simp only [iter,g0,share,cf hi,bM hi,cond_true,bL,bR hi,bQ hb hi];cases seq b.aW[i].fM d<;>cases seq b.aW[i].aX t<;>rfl) k (by omega)
theorem Md {α:Type} {P:α→Prop} {l:List α} {v:Int} {f:α→α} (h:∀ e,e∈l→P e) (hf:∀ e,e∈l→P (f e)):∀ y,y∈bD l v f→P y:=fun y hy=>by
 unfold bD at hy;obtain ⟨j,hj,rfl⟩:=List.getElem_of_mem hy;rw [List.getElem_modify];rw [List.length_modify] at hj;split
 ·exact hf _ (List.getElem_mem hj)
 ·exact h _ (List.getElem_mem hj)
theorem abH {α β:Type} {l:List α} {v:Int} {f:α→α} {g:α→β} (h:∀ e,g (f e)=g e):(bD l v f).map g=l.map g:=by
 unfold bD;refine List.ext_getElem (by simp) fun i h1 h2=>?_;rw [List.getElem_map,List.getElem_map,List.getElem_modify];split
 ·exact h _
 ·rfl
theorem vi {α:Type} {l:List α} {v:Int} {f:α→α}:(bD l v f).length=l.length:=by simp [bD]
theorem S4 {α β:Type} {p:α→Bool} {q:β→Bool}:∀ {x:List α} {y:List β} {i:Nat},x.map p=y.map q→uE p x i=uE q y i
 | [],[],_,_=>rfl
 | [],_::_,_,h=>by cases h
 | _::_,[],_,h=>by cases h
 | a::r,b::s,i,h=>by
  simp only [List.map_cons,List.cons.injEq] at h;simp only [uE,h.1,S4 h.2]
def GN (ls:List aB) (v n:Int):List aB:=bD ls v (fun e=>⟨e.aX,e.aN,e.bT,aP .i64 (nth (default:aB) ls v).gG n⟩)
def Bl (b:aG) (a:Int):aE:=nth (default:aE) b.aW a
def Bm (b:aG) (a:Int):aG:=⟨b.vo,b.dR,b.dP,b.aO,b.bI,GN b.aK (nM b (Bl b a).aX (Bl b a).aN) (Bl b a).cF,b.aW.eraseIdx a.toNat⟩
abbrev BpT:Type:=Int×Int×Int×List aA×List aF×List aB×List aE×List aE
def XO (b c:aG):BpT:=(b.vo,b.dR,b.dP,b.aO,b.bI,c.aK,b.aW,c.aW)
theorem XP {b:aG} {v n:Int} {t r:Nm} {ps:List aE} {a1 a2 a3:Int} {os:List aA} {gs:List aF}:nM ⟨a1,a2,a3,os,gs,GN b.aK v n,ps⟩ t r=nM b t r:=
 S4 (abH fun _=>rfl)
theorem Rg {b:aG} {t r:Nm} (h:0≤nM b t r):bW (nM b t r) b.aK.length=true:=by
 rcases eJ (fun g:aB=>seq g.aX t&&seq g.aN r) b.aK with ⟨h1,_⟩ | ⟨j,hj,h1,_⟩
 ·unfold nM at h;omega
 ·unfold nM;rw [h1];exact bM hj
theorem ZK {k a:Nat} {x:List aE} (hx:x.length≤1048576) (ha:a < x.length):xA k x (a:Int)=some (x.eraseIdx a):=by
 unfold xA;have h1:O8 0 (a:Int) x.length=true:=by simp [O8];omega
 have h2:BR x 0 (a:Int)=x.take a:=by simp [BR]
 have h3:aP .i64 (a:Int) 1=((a+1:Nat):Int):=bQ hx ha;have h4:O8 ((a+1:Nat):Int) (x.length:Int) x.length=true:=by simp [O8];omega
 have h5:BR x ((a+1:Nat):Int) (x.length:Int)=x.drop (a+1):=by
  unfold BR;rw [Int.toNat_natCast,Int.toNat_natCast,List.take_length]
 rw [h1,h2,h3,h4,h5,hC (by simp only [List.length_nil,List.length_take];omega) (by omega),hC (by simp only [List.nil_append,List.length_take,List.length_drop];omega) (by omega)];rw [List.eraseIdx_eq_take_drop_succ];rfl
theorem P6 {k a:Nat} {b:aG} (hk:4194304≤k) (hp:b.aW.length≤1048576) (hl:b.aK.length≤1048576) (ha:a < b.aW.length) (hv:0≤nM b (Bl b a).aX (Bl b a).aN):
  pR k b.vo b.dR b.dP (a:Int) b.aO b.bI b.aK b.aW=some (XO b (Bm b a)):=by
 unfold pR;rw [bM ha];have e:(⟨b.vo,b.dR,b.dP,b.aO,b.bI,b.aK,b.aW⟩:aG)=b:=rfl;have e2:nth (default:aE) b.aW (a:Int)=Bl b a:=rfl;rw [e,e2,Hm hk hl];simp only [Option.bind_some,Rg hv,bL,ZK hp ha];rfl
theorem U6 {k a:Nat} {n1 n2 n3:Int} {os:List aA} {gs:List aF} {ls:List aB} {x:List aE} (hk:4194304≤k) (hx:x.length≤1048576):gT k (a:Int) n1 n2 n3 os gs ls x=some (n1,n2,n3,os,gs,ls,x,x.eraseIdx a):=by
 unfold gT;simp only [share];have h:=QW (R:=Option BpT) (x:=x) (B:=0) (fun i=>(x.take i).eraseIdx a) (l:=fun k s i=>iter (ts:=my) (R:=BpT) k (fw fun v45 v46 v47 v48 v49 v50 v51 v52=>some (v45,v46,v47,v48,v49,v50,v51,v52)) (a:Int) (x.length:Int) i n1 n2 n3 os gs ls x s)
  (E:=some (n1,n2,n3,os,gs,ls,x,x.eraseIdx a))
  (fun k=>by simp only [iter,fw,ck,cond_false,List.take_length]<;>rfl)
  (fun k i hi _=>by
   have hl:((x.take i).eraseIdx a).length≤1048576:=Nat.le_trans (List.length_eraseIdx_le ..) (by simp;omega);have e:x.take (i+1)=x.take i++[x[i]]:=by rw [List.take_succ_eq_append_getElem hi]
   simp only [iter,fw,share,cf hi,bM hi,cond_true,bL,bR hi,bQ hx hi];rw [hC (by simp only [List.length_singleton];omega) (by omega),e];by_cases c:i=a
   ·subst c;have:bH (i:Int) (i:Int)=true:=iy _;rw [this,List.eraseIdx_append_of_length_le (by simp;omega)];rw [List.eraseIdx_of_length_le (l:=x.take i) (by simp;omega)];have e3:(List.take i x).length=i:=by simp;omega
    rw [e3,Nat.sub_self];simp only [List.eraseIdx_cons_zero,List.append_nil];rfl
   ·have:bH (i:Int) (a:Int)=false:=by simp [bH];omega
    rw [this];rcases Nat.lt_or_ge a i with h | h
    ·rw [List.eraseIdx_append_of_lt_length (by simp;omega)];rfl
    ·rw [List.eraseIdx_of_length_le (l:=x.take i) (by simp;omega),List.eraseIdx_of_length_le (l:=x.take i++[x[i]]) (by simp;omega)];rfl) k (by omega)
 simp only [List.take_zero,List.eraseIdx_nil] at h;exact h
theorem Lq {k a:Nat} {b:aG} (hk:4194304≤k) (hp:b.aW.length≤1048576) (hl:b.aK.length≤1048576) (ha:a < b.aW.length) (hv:0≤nM b (Bl b a).aX (Bl b a).aN):
  eE k (a:Int) b.vo b.dR b.dP b.aO b.bI b.aK b.aW=some (XO b (Bm b a)):=by
 unfold eE;rw [bM ha];have e:(⟨b.vo,b.dR,b.dP,b.aO,b.bI,b.aK,b.aW⟩:aG)=b:=rfl;have e2:nth (default:aE) b.aW (a:Int)=Bl b a:=rfl;rw [e,e2,M9 hk hl];simp only [Option.bind_some,Rg hv,bL,U6 hk hp,fb];rfl
structure II (n:Nat) (b:aG):Prop where
 n:n≤b.aW.length
 ok:b.ok
 sd:b.sd
 led:∀ p,p∈b.aW→0≤nM b p.aX p.aN
theorem II.at {n:Nat} {b:aG} (h:II (n+1) b):0≤nM b (Bl b n).aX (Bl b n).aN:=h.led _ (Fl h.n)
theorem abI {ls:List aB} {v n:Int} (h:lE aB.sd ls):lE aB.sd (GN ls v n):=⟨by unfold GN;rw [vi];exact h.1,Md h.2 fun e he=>h.2 e he⟩
theorem abJ {ls:List aB} {v n:Int} (h:DN aB.ok ls):DN aB.ok (GN ls v n):=⟨by unfold GN;rw [vi];exact h.1,Md h.2 fun e he=>⟨(h.2 e he).1,(h.2 e he).2.1,(h.2 e he).2.2.1,Nh _ _⟩⟩
theorem mem_erase {α:Type} {l:List α} {i:Nat} {y:α} (h:y∈l.eraseIdx i):y∈l:=(List.eraseIdx_sublist l i).subset h
theorem ZL {p:aE→Prop} {ls:List aE} {i:Nat} (h:lE p ls):lE p (ls.eraseIdx i):=⟨Nat.le_trans (List.length_eraseIdx_le ..) h.1,fun y hy=>h.2 y (mem_erase hy)⟩
theorem ZM {p:aE→Prop} {ls:List aE} {i:Nat} (h:DN p ls):DN p (ls.eraseIdx i):=⟨Nat.le_trans (List.length_eraseIdx_le ..) h.1,fun y hy=>h.2 y (mem_erase hy)⟩
theorem Rh {b:aG} {a:Int} (h:b.ok):(Bm b a).ok:=⟨h.1,h.2.1,h.2.2.1,h.2.2.2.1,h.2.2.2.2.1,abJ h.2.2.2.2.2.1,ZM h.2.2.2.2.2.2⟩
theorem Ri {b:aG} {a:Int} (h:b.sd):(Bm b a).sd:=⟨h.1,h.2.1,h.2.2.1,h.2.2.2.1,h.2.2.2.2.1,abI h.2.2.2.2.2.1,ZL h.2.2.2.2.2.2⟩
theorem II.back {n:Nat} {b:aG} (h:II (n+1) b):II n (Bm b n) where
 n:=by
  have:=h.n;show n≤(b.aW.eraseIdx n).length;rw [List.length_eraseIdx];split<;>omega
 ok:=Rh h.ok
 sd:=Ri h.sd
 led:=fun p hp=>by
  have e:nM (Bm b n) p.aX p.aN=nM b p.aX p.aN:=XP;rw [e];exact h.led p (mem_erase hp)
theorem II.less {n:Nat} {b:aG} (h:II (n+1) b):II n b:=⟨by have:=h.n;omega,h.ok,h.sd,h.led⟩
theorem Nk {w:aL} {b:aG} (h:eA w b=true):∀ p,p∈b.aW→0≤nM b p.aX p.aN:=by
 have hc:chain (M_ b) none b.aW=true:=by
  simp only [eA,Hn,Bool.and_eq_true] at h;exact h.2.2.2.2.1
 have e:chain (M_ b) none b.aW=(chain (fun _ a=>U1 b a) none b.aW&&chain U0 none b.aW):=uC (p:=fun _ a=>U1 b a) (q:=U0) b.aW none;rw [e,uD,Bool.and_eq_true] at hc;intro p hp;have:=List.all_eq_true.1 hc.1 p hp;simp only [U1,Bool.and_eq_true,Bool.not_eq_true',bK,decide_eq_false_iff_not] at this;omega
def jT (w:aL) (b:aG) (d t r:Nm):aG×Int:=cond (eA w b) (cond (bK (Nj b d t r) 0) (b,2) (Bm b (Nj b d t r),0)) (S0,1)
theorem Nl:S0.ok:=⟨Fk.2 ⟨by decide,by decide⟩,Fk.2 ⟨by decide,by decide⟩,Fk.2 ⟨by decide,by decide⟩,⟨by decide,fun _ h=>by cases h⟩,⟨by decide,fun _ h=>by cases h⟩,⟨by decide,fun _ h=>by cases h⟩,⟨by decide,fun _ h=>by cases h⟩⟩
theorem Nn:S0.sd:=⟨trivial,trivial,trivial,⟨by decide,fun _ h=>by cases h⟩,⟨by decide,fun _ h=>by cases h⟩,⟨by decide,fun _ h=>by cases h⟩,⟨by decide,fun _ h=>by cases h⟩⟩
theorem Zf {w:aL} {b:aG} {d t r:Nm} (h:b.ok):(jT w b d t r).1.ok:=by
 unfold jT;cases eA w b with
 | false=>exact Nl
 | true=>cases bK (Nj b d t r) 0 with
  | true=>exact h
  | false=>exact Rh h
theorem Ze {w:aL} {b:aG} {d t r:Nm} (h:b.sd):(jT w b d t r).1.sd:=by
 unfold jT;cases eA w b with
 | false=>exact Nn
 | true=>cases bK (Nj b d t r) 0 with
  | true=>exact h
  | false=>exact Ri h
theorem Wj {b:aG} {d t r:Nm} (h:bK (Nj b d t r) 0=false):∃ j:Nat,j < b.aW.length∧Nj b d t r=(j:Int):=by
 rcases eJ (fun p:aE=>seq p.fM d&&(seq p.aX t&&seq p.aN r)) b.aW with ⟨h1,_⟩ | ⟨j,hj,h1,_⟩
 ·unfold Nj at h;rw [h1] at h;cases h
 ·exact ⟨j,hj,h1⟩
theorem UC {k:Nat} {w:aL} {b:aG} {d t r:Nm} (hk:4194304*12≤k) (hw:w.sd) (hb:b.sd):mG k w b d t r=some (LN (jT w b d t r).1 (jT w b d t r).2):=by
 have hp:=hb.2.2.2.2.2.2.1;have hl:=hb.2.2.2.2.2.1.1;unfold mG jT;rw [Ch hk hw hb,Kl (by omega) hb,XN (by omega) hp];cases o_:eA w b with
 | false=>rfl
 | true=>
  cases hi:bK (Nj b d t r) 0 with
  | true=>simp only [Option.bind_some,hi];rfl
  | false=>
   obtain ⟨j,hj,e⟩:=Wj hi;have hv:=Nk o_ _ (Fl (d:=(default:aE)) hj);simp only [Option.bind_some,Bool.not_true,cond_false,hi,Hq];rw [e,P6 (by omega) hp hl hj hv];simp only [Option.bind_some,XO,fb,Bm,GN,vi];rfl
theorem UD {k:Nat} {w:aL} {b:aG} {d t r:Nm} (hk:4194304*12≤k) (hw:w.sd) (hb:b.sd):iZ k w b d t r=some (LN (jT w b d t r).1 (jT w b d t r).2):=by
 have hp:=hb.2.2.2.2.2.2.1;have hl:=hb.2.2.2.2.2.1.1;unfold iZ jT;rw [Ci hk hw hb,Es (by omega) hb];have e0:(⟨(Hq b).1,(Hq b).2.1,(Hq b).2.2.1,(Hq b).2.2.2.1,(Hq b).2.2.2.2.1,(Hq b).2.2.2.2.2.1,(Hq b).2.2.2.2.2.2⟩:aG)=b:=rfl;simp only [Option.bind_some,e0,abG (show 4194304≤k by omega) hp];cases o_:eA w b with
 | false=>rfl
 | true=>
  cases hi:bK (Nj b d t r) 0 with
  | true=>rfl
  | false=>
   obtain ⟨j,hj,e⟩:=Wj hi;have hv:=Nk o_ _ (Fl (d:=(default:aE)) hj);simp only [Bool.not_true,cond_false,Hq];rw [e,Lq (by omega) hp hl hj hv];simp only [Option.bind_some,XO,fb,Bm,GN,vi];rfl
def pz:Nat→aG→aG
 | 0,b=>b
 | n+1,b=>pz n (cond (bK (Bl b n).dX b.dR) (Bm b n) b)
theorem S5:∀ {n:Nat} {b:aG},b.ok→(pz n b).ok
 | 0,_,h=>h
 | n+1,b,h=>by
  unfold pz;refine S5 ?_;cases bK (Bl b n).dX b.dR with
  | true=>exact Rh h
  | false=>exact h
theorem S6:∀ {n:Nat} {b:aG},b.sd→(pz n b).sd
 | 0,_,h=>h
 | n+1,b,h=>by
  unfold pz;refine S6 ?_;cases bK (Bl b n).dX b.dR with
  | true=>exact Ri h
  | false=>exact h
theorem II.step {n:Nat} {b:aG} (h:II (n+1) b):II n (cond (bK (Bl b n).dX b.dR) (Bm b n) b):=by
 cases bK (Bl b n).dX b.dR with
 | true=>exact h.back
 | false=>exact h.less
theorem Rj {n:Nat} (h:n≤1048576):bO .i64 (n:Int) (1:Int)=(n:Int)-1:=Sr (by omega) (by omega)
theorem No {z:aG} (J:aG→Int→Int→Int→List aA→List aF→List aB→List aE→Option ZJ):∀ (n k:Nat) (b:aG) (i:Int),i=(n:Int)-1→II n b→4194304+n+1≤k→
  iter (ts:=tC) (R:=ZJ) k (qP J) i z b.vo b.dR b.dP b.aO b.bI b.aK b.aW=J z (pz n b).vo (pz n b).dR (pz n b).dP (pz n b).aO (pz n b).bI (pz n b).aK (pz n b).aW
 | 0,k,b,i,hi,h,hk=>by
  obtain ⟨k,rfl⟩:∃ j,k=j+1:=⟨k-1,by omega⟩;obtain rfl:i=-1:=hi;rfl
 | n+1,k,b,i,hi,h,hk=>by
  obtain rfl:i=(n:Int):=by omega
  obtain ⟨k,rfl⟩:∃ j,k=j+1:=⟨k-1,by omega⟩;have hp:=h.sd.2.2.2.2.2.2.1;have hl:=h.sd.2.2.2.2.2.1.1;have hn:n < b.aW.length:=h.n;have e2:b8 (0:Int) (n:Int)=true:=C8 (by omega);have e3:bO .i64 (n:Int) (1:Int)=(n:Int)-1:=Rj (by omega);have ih:=No J (z:=z) n k _ _ rfl h.step (by omega);have e4:nth (default:aE) b.aW (n:Int)=Bl b n:=rfl;unfold pz;rw [← ih];simp only [iter,qP,e2,cond_true,share,bM hn,bL,e4];cases bK (Bl b n).dX b.dR with
  | true=>
   simp only [cond_true,P6 (show 4194304≤k by omega) hp hl hn h.at,Option.bind_some,XO,fb,bL,e3,GN,vi,Bm];rfl
  | false=>
   simp only [cond_false,e3];rfl
theorem Np {z:aG} (J:aG→Int→Int→Int→List aA→List aF→List aB→List aE→Option ZJ):∀ (n k:Nat) (b:aG) (i:Int),i=(n:Int)-1→II n b→4194304+n+1≤k→
  iter (ts:=tD) (R:=ZJ) k (qQ J) i z b.vo b.dR b.dP b.aO b.bI b.aK b.aW=J z (pz n b).vo (pz n b).dR (pz n b).dP (pz n b).aO (pz n b).bI (pz n b).aK (pz n b).aW
 | 0,k,b,i,hi,h,hk=>by
  obtain ⟨k,rfl⟩:∃ j,k=j+1:=⟨k-1,by omega⟩;obtain rfl:i=-1:=hi;rfl
 | n+1,k,b,i,hi,h,hk=>by
  obtain rfl:i=(n:Int):=by omega
  obtain ⟨k,rfl⟩:∃ j,k=j+1:=⟨k-1,by omega⟩;have hp:=h.sd.2.2.2.2.2.2.1;have hl:=h.sd.2.2.2.2.2.1.1;have hn:n < b.aW.length:=h.n;have e2:b8 (0:Int) (n:Int)=true:=C8 (by omega);have e3:bO .i64 (n:Int) (1:Int)=(n:Int)-1:=Rj (by omega);have ih:=Np J (z:=z) n k _ _ rfl h.step (by omega);have e4:nth (default:aE) b.aW (n:Int)=Bl b n:=rfl;unfold pz;rw [← ih];simp only [iter,qQ,e2,cond_true,share,bM hn,bL,e4];cases bK (Bl b n).dX b.dR with
  | true=>
   simp only [cond_true,Lq (show 4194304≤k by omega) hp hl hn h.at,Option.bind_some,XO,fb,bL,e3,GN,vi,Bm];rfl
  | false=>
   simp only [cond_false,e3];rfl
def P7 (b:aG):aG:=⟨b.vo,aP .i64 b.dR 1,b.dP,b.aO,b.bI,b.aK,b.aW⟩
def jU (w:aL) (b:aG):aG×Int:=cond (eA w b) (cond (bH b.dR 1000000) (b,2) (pz b.aW.length (P7 b),0)) (S0,1)
theorem S7 {b:aG} (h:b.ok):(P7 b).ok:=⟨h.1,Nh _ _,h.2.2⟩
theorem S8 {b:aG} (h:b.sd):(P7 b).sd:=h
theorem Zi {w:aL} {b:aG} (h:b.ok):(jU w b).1.ok:=by
 unfold jU;cases eA w b with
 | false=>exact Nl
 | true=>cases bH b.dR 1000000 with
  | true=>exact h
  | false=>exact S5 (S7 h)
theorem Zh {w:aL} {b:aG} (h:b.sd):(jU w b).1.sd:=by
 unfold jU;cases eA w b with
 | false=>exact Nn
 | true=>cases bH b.dR 1000000 with
  | true=>exact h
  | false=>exact S6 (S8 h)
theorem XQ {w:aL} {b:aG} (h:eA w b=true):b8 1000000 b.dR=bH b.dR 1000000:=by
 simp only [eA,Bool.and_eq_true] at h;have h1:=ot h.1.2.2.1.2;simp only [b8,bH];rw [Bool.eq_iff_iff,decide_eq_true_eq,beq_iff_eq];omega
theorem S9 {w:aL} {b:aG} (h:eA w b=true) (ho:b.ok) (hs:b.sd):II b.aW.length (P7 b):=⟨Nat.le_refl _,S7 ho,S8 hs,fun p hp=>(Nk h p hp:0≤nM b p.aX p.aN)⟩
theorem UE {k:Nat} {w:aL} {b:aG} (ho:b.ok) (hk:4194304*12≤k) (hw:w.sd) (hb:b.sd):mF k w b=some (LN (jU w b).1 (jU w b).2):=by
 have hp:=hb.2.2.2.2.2.2.1;unfold mF jU;rw [Ch hk hw hb,Kl (by omega) hb];cases o_:eA w b with
 | false=>rfl
 | true=>
  simp only [Option.bind_some,Bool.not_true,cond_false,XQ o_,share,Hq];cases bH b.dR 1000000 with
  | true=>rfl
  | false=>
   simp only [cond_false];rw [Rj hp];exact No _ b.aW.length k (P7 b) _ rfl (S9 o_ ho hb) (by omega)
theorem UF {k:Nat} {w:aL} {b:aG} (ho:b.ok) (hk:4194304*12≤k) (hw:w.sd) (hb:b.sd):iX k w b=some (LN (jU w b).1 (jU w b).2):=by
 have hp:=hb.2.2.2.2.2.2.1;unfold iX jU;rw [Ci hk hw hb,Es (by omega) hb];cases o_:eA w b with
 | false=>rfl
 | true=>
  simp only [Option.bind_some,Bool.not_true,cond_false,share,Hq];cases bH b.dR 1000000 with
  | true=>rfl
  | false=>
   simp only [cond_false];rw [Rj hp];exact Np _ b.aW.length k (P7 b) _ rfl (S9 o_ ho hb) (by omega)
theorem Rk:∀ a b:List UInt8,(!(slt a b||seq a b))=slt b a
 | [],[]=>rfl
 | [],_::_=>rfl
 | _::_,[]=>rfl
 | a::r,b::s=>by
  have ih:=Rk r s;simp only [slt,Op.bytesLess,seq] at *;rcases Nat.lt_trichotomy a.toNat b.toNat with h | h | h
  ·have h1:a < b:=h;have h2:¬ b < a:=fun h3=>by have h4:b.toNat < a.toNat:=h3;omega
   have h3:¬ b=a:=fun h3=>by subst h3;omega
   simp [h1,h2,h3]
  ·obtain rfl:a=b:=UInt8.toNat_inj.1 h;have h1:¬ a < a:=fun h3=>by have h4:a.toNat < a.toNat:=h3;omega
   simp only [h1,decide_false,Bool.false_or,beq_self_eq_true,Bool.true_and];rw [← ih];simp
  ·have h1:b < a:=h;have h2:¬ a < b:=fun h3=>by have h4:a.toNat < b.toNat:=h3;omega
   have h3:¬ a=b:=fun h3=>by subst h3;omega
   simp [h1,h2,h3]
theorem abK (a b c d:Nm):bK 0 (XG a b c d)=nK c d a b:=by
 unfold XG nK Q5;rw [← Rk a c,← Rk b d,Ei c a];cases h1:slt a c<;>cases h2:seq a c<;>cases h3:slt b d<;>cases h4:seq b d<;>first | rfl | (have:=Mb h2;rw [h1] at this;cases this)
def Et (x:aB) (q:Bool×List aB) (y:aB):Bool×List aB:=cond (!q.1&&nK x.aX x.aN y.aX y.aN) (true,(q.2++[x])++[y]) (q.1,q.2++[y])
def F8 (x:aB) (ls:List aB):Bool×List aB:=ls.foldl (Et x) (false,[])
def Rl (x:aB) (ls:List aB):List aB:=cond (!(F8 x ls).1) ((F8 x ls).2++[x]) (F8 x ls).2
theorem S_ (x:aB) (q:Bool×List aB) (y:aB):(Et x q y).2.length≤q.2.length+2:=by
 unfold Et;cases !q.1&&nK x.aX x.aN y.aX y.aN<;>simp
theorem Eu {P:aB→Prop} {x:aB} (hx:P x):∀ (ls:List aB) (q:Bool×List aB),(∀ y,y∈ls→P y)→(∀ y,y∈q.2→P y)→(∀ y,y∈(ls.foldl (Et x) q).2→P y)∧(ls.foldl (Et x) q).2.length≤q.2.length+ls.length+cond q.1 0 1∧(q.1=true→(ls.foldl (Et x) q).1=true)∧((ls.foldl (Et x) q).1=false→(ls.foldl (Et x) q).2.length=q.2.length+ls.length)
 | [],q,_,hq=>⟨hq,by simp,id,fun _=>by simp⟩
 | a::r,q,hl,hq=>by
  have ha:=hl a (by simp);have hr:=fun y hy=>hl y (List.mem_cons_of_mem _ hy);simp only [List.foldl_cons];obtain ⟨d,o⟩:=q;cases d with
  | true=>
   obtain ⟨k1,k2,k3,k4⟩:=Eu hx r (true,o++[a]) hr (fun y hy=>by simp only [List.mem_append,List.mem_singleton] at hy;rcases hy with h | rfl;exact hq y h;exact ha);rw [show Et x (true,o) a=(true,o++[a]) from rfl];refine ⟨k1,?_,fun _=>k3 rfl,fun h=>by rw [k3 rfl] at h;cases h⟩;simp only [List.length_append,List.length_singleton,cond_true] at k2;simp only [List.length_cons,cond_true];omega
  | false=>
   cases ht:nK x.aX x.aN a.aX a.aN with
   | true=>
    obtain ⟨k1,k2,k3,k4⟩:=Eu hx r (true,(o++[x])++[a]) hr (fun y hy=>by
     simp only [List.mem_append,List.mem_singleton] at hy;rcases hy with (h | rfl) | rfl
     ·exact hq y h
     ·exact hx
     ·exact ha)
    rw [show Et x (false,o) a=(true,(o++[x])++[a]) by unfold Et;simp only [ht];rfl];refine ⟨k1,?_,(fun h=>by cases h),fun h=>by rw [k3 rfl] at h;cases h⟩;simp only [List.length_append,List.length_singleton,cond_true] at k2;simp only [List.length_cons,cond_false];omega
   | false=>
    obtain ⟨k1,k2,k3,k4⟩:=Eu hx r (false,o++[a]) hr (fun y hy=>by simp only [List.mem_append,List.mem_singleton] at hy;rcases hy with h | rfl;exact hq y h;exact ha);rw [show Et x (false,o) a=(false,o++[a]) by unfold Et;simp only [ht];rfl];simp only [List.length_append,List.length_singleton,cond_false] at k2 k4;refine ⟨k1,?_,(fun h=>by cases h),fun h=>?_⟩
    ·simp only [List.length_cons,cond_false];omega
    ·have:=k4 h;simp only [List.length_cons];omega
theorem Ta {P:aB→Prop} {x:aB} {ls:List aB} (hx:P x) (hl:∀ y,y∈ls→P y):(∀ y,y∈Rl x ls→P y)∧(Rl x ls).length≤ls.length+1:=by
 obtain ⟨k1,k2,k3,k4⟩:=Eu hx ls (false,[]) hl (fun y hy=>by cases hy);unfold Rl;change (∀ y,y∈(F8 x ls).2→P y) at k1;change (F8 x ls).2.length≤_ at k2;change (F8 x ls).1=false→(F8 x ls).2.length=_ at k4;cases h:(F8 x ls).1 with
 | true=>
  simp only [Bool.not_true,cond_false];exact ⟨k1,by simpa [Nat.add_comm] using k2⟩
 | false=>
  have k5:=k4 h;simp only [Bool.not_false,cond_true];refine ⟨fun y hy=>?_,by simp only [List.length_append,List.length_singleton,k5,List.length_nil];omega⟩;simp only [List.mem_append,List.mem_singleton] at hy;rcases hy with hy | rfl
  ·exact k1 y hy
  ·exact hx
theorem XR {k:Nat} {z:aG} {a1 a2 a3 n f:Int} {t r:Nm} {os:List aA} {gs:List aF} {ls:List aB} {ps:List aE} (hk:4194304≤k) (hl:ls.length≤1048576)
  (J:Bool→aG→Int→Int→Int→aB→List aB→List aA→List aF→List aB→List aE→Option ZJ):
  iter (ts:=kW) (R:=ZJ) k (fW J) t r false (0:Int) z a1 a2 a3 ⟨t,r,n,f⟩ [] os gs ls ps=J (F8 ⟨t,r,n,f⟩ ls).1 z a1 a2 a3 ⟨t,r,n,f⟩ (F8 ⟨t,r,n,f⟩ ls).2 os gs ls ps:=by
 exact fD (S:=Bool×List aB) (x:=ls) (B:=0) (f:=Et ⟨t,r,n,f⟩) (l:=fun k s i=>iter (ts:=kW) (R:=ZJ) k (fW J) t r s.1 i z a1 a2 a3 ⟨t,r,n,f⟩ s.2 os gs ls ps)
  (J:=fun s=>J s.1 z a1 a2 a3 ⟨t,r,n,f⟩ s.2 os gs ls ps) (fun i s=>s.2.length≤2*i)
  (fun k s _=>by simp only [iter,fW,ck,cond_false]<;>rfl)
  (fun k i s hi _ hI=>⟨by
   obtain ⟨d,o⟩:=s;simp only at hI;simp only [iter,fW,share,cf hi,bM hi,cond_true,bL,bR hi,bQ hl hi,Mc,Option.bind_some,abK];have a1:∀ y:List aB,y.length≤4000000→∀ z:aB,mw (y.length+([z]:List aB).length) 48=true:=fun y hy z=>hC (by simp only [List.length_singleton];omega) (by omega);have a2:=a1 o (by omega) ls[i];have a4:=a1 o (by omega) ⟨t,r,n,f⟩;have a3:=a1 (o++[⟨t,r,n,f⟩]) (by simp;omega) ls[i];unfold Et;rw [a2,a3,a4];cases d with
   | true=>rfl
   | false=>cases nK t r ls[i].aX ls[i].aN<;>rfl,by have:=S_ ⟨t,r,n,f⟩ s ls[i];omega⟩) k (false,[]) (by omega) (by simp)
theorem XS {k:Nat} {z:aG} {a1 a2 a3 n f:Int} {t r:Nm} {os:List aA} {gs:List aF} {ls:List aB} {ps:List aE} (hk:4194304≤k) (hl:ls.length≤1048576)
  (J:Bool→aG→Int→Int→Int→aB→List aB→List aA→List aF→List aB→List aE→Option ZJ):
  iter (ts:=kY) (R:=ZJ) k (fX J) false (ls.length:Int) (0:Int) z a1 a2 a3 ⟨t,r,n,f⟩ [] ls os gs ps=J (F8 ⟨t,r,n,f⟩ ls).1 z a1 a2 a3 ⟨t,r,n,f⟩ (F8 ⟨t,r,n,f⟩ ls).2 os gs ls ps:=by
 exact fD (S:=Bool×List aB) (x:=ls) (B:=0) (f:=Et ⟨t,r,n,f⟩) (l:=fun k s i=>iter (ts:=kY) (R:=ZJ) k (fX J) s.1 (ls.length:Int) i z a1 a2 a3 ⟨t,r,n,f⟩ s.2 ls os gs ps)
  (J:=fun s=>J s.1 z a1 a2 a3 ⟨t,r,n,f⟩ s.2 os gs ls ps) (fun i s=>s.2.length≤2*i)
  (fun k s _=>by simp only [iter,fX,ck,cond_false]<;>rfl)
  (fun k i s hi _ hI=>⟨by
   obtain ⟨d,o⟩:=s;simp only at hI;simp only [iter,fX,share,cf hi,bM hi,cond_true,bL,bR hi,bQ hl hi];have a1:∀ y:List aB,y.length≤4000000→∀ z:aB,mw (y.length+([z]:List aB).length) 48=true:=fun y hy z=>hC (by simp only [List.length_singleton];omega) (by omega);have a2:=a1 o (by omega) ls[i];have a4:=a1 o (by omega) ⟨t,r,n,f⟩;have a3:=a1 (o++[⟨t,r,n,f⟩]) (by simp;omega) ls[i];unfold Et nK;rw [a2,a3,a4];cases d with
   | true=>rfl
   | false=>cases slt t ls[i].aX<;>cases seq t ls[i].aX<;>cases slt r ls[i].aN<;>rfl,by have:=S_ ⟨t,r,n,f⟩ s ls[i];omega⟩) k (false,[]) (by omega) (by simp)
theorem mod_mod {α:Type} {l:List α} {v:Int} {f g:α→α}:bD (bD l v f) v g=bD l v (fun e=>g (f e)):=by
 unfold bD;refine List.ext_getElem (by simp) fun i h1 h2=>?_;simp only [List.getElem_modify];split<;>rfl
def zk (ls:List aB) (v n f:Int):List aB:=bD ls v (fun e=>⟨e.aX,e.aN,n,f⟩)
def Wk (b:aG) (ls:List aB):aG:=⟨b.vo,b.dR,b.dP,b.aO,b.bI,ls,b.aW⟩
def Nq (b:aG) (v n:Int):Int:=bO .i64 (aP .i64 (nth (default:aB) b.aK v).gG n) (nth (default:aB) b.aK v).bT
def abL (w:aL) (t r:Nm) (n:Int):Bool:=(h_ w.dY t).isSome&&(cB r&&(b8 0 n&&b8 n 1000000))
def Nr (w:aL) (b:aG) (t r:Nm) (n:Int):aG×Int:=
 cond (!abL w t r n) (b,2) (cond (b8 0 (nM b t r)) (cond (bK (Nq b (nM b t r) n) 0) (b,3) (Wk b (zk b.aK (nM b t r) n (Nq b (nM b t r) n)),0))
  (cond (bK (bO .i64 n (rL w b t r)) 0) (b,3) (cond (bH (b.aK.length:Int) 10) (b,4) (Wk b (Rl ⟨t,r,n,bO .i64 n (rL w b t r)⟩ b.aK),0))))
def fv (w:aL) (b:aG) (t r:Nm) (n:Int):aG×Int:=cond (eA w b) (Nr w b t r n) (S0,1)
theorem Ns {P:aG→Prop} {w:aL} {b:aG} {t r:Nm} {n:Int} (h0:P b) (h1:∀ v f,jr .i64 f→P (Wk b (zk b.aK v n f))) (h2:∀ f,jr .i64 f→P (Wk b (Rl ⟨t,r,n,f⟩ b.aK))):P (Nr w b t r n).1:=by
 unfold Nr;cases !abL w t r n with
 | true=>exact h0
 | false=>
  cases b8 0 (nM b t r) with
  | true=>cases bK (Nq b (nM b t r) n) 0 with
   | true=>exact h0
   | false=>exact h1 _ _ (Ni _ _)
  | false=>cases bK (bO .i64 n (rL w b t r)) 0 with
   | true=>exact h0
   | false=>cases bH (b.aK.length:Int) 10 with
    | true=>exact h0
    | false=>exact h2 _ (Ni _ _)
theorem s7 {w:aL} {b:aG} (h:eA w b=true):b.aK.length≤10:=by
 simp only [eA,Hn,Bool.and_eq_true] at h;have:=ot h.2.2.2.1.1;omega
theorem Xr {w:aL} {b:aG} {t r:Nm} {n:Int} (ht:dB t) (hr:dB r) (hn:jr .i64 n) (h:b.ok):(fv w b t r n).1.ok:=by
 unfold fv;cases o_:eA w b with
 | false=>exact Nl
 | true=>
  obtain ⟨a1,a2,a3,a4,a5,a6,a7⟩:=h;refine Ns (P:=aG.ok) ⟨a1,a2,a3,a4,a5,a6,a7⟩ (fun v f hf=>⟨a1,a2,a3,a4,a5,⟨by show (bD b.aK v _).length≤_;rw [vi];exact a6.1,Md a6.2 fun e he=>⟨(a6.2 e he).1,(a6.2 e he).2.1,hn,hf⟩⟩,a7⟩) (fun f hf=>?_);obtain ⟨k1,k2⟩:=Ta (P:=aB.ok) (x:=⟨t,r,n,f⟩) (ls:=b.aK) ⟨ht,hr,hn,hf⟩ a6.2;exact ⟨a1,a2,a3,a4,a5,⟨by have:=s7 o_;have:=max_eq;show (Rl _ b.aK).length≤maxLen;omega,k1⟩,a7⟩
theorem Xq {w:aL} {b:aG} {t r:Nm} {n:Int} (ht:dt t) (hr:dt r) (h:b.sd):(fv w b t r n).1.sd:=by
 unfold fv;cases o_:eA w b with
 | false=>exact Nn
 | true=>
  obtain ⟨a1,a2,a3,a4,a5,a6,a7⟩:=h;refine Ns (P:=aG.sd) ⟨a1,a2,a3,a4,a5,a6,a7⟩ (fun v f hf=>⟨a1,a2,a3,a4,a5,⟨by show (bD b.aK v _).length≤_;rw [vi];exact a6.1,Md a6.2 fun e he=>⟨(a6.2 e he).1,(a6.2 e he).2.1,trivial,trivial⟩⟩,a7⟩) (fun f hf=>?_);obtain ⟨k1,k2⟩:=Ta (P:=aB.sd) (x:=⟨t,r,n,f⟩) (ls:=b.aK) ⟨ht,hr,trivial,trivial⟩ a6.2;exact ⟨a1,a2,a3,a4,a5,⟨by have:=s7 o_;show (Rl _ b.aK).length≤1048576;omega,k1⟩,a7⟩
theorem ZN {x:aB} {ls:List aB} (h:ls.length≤10):mw ((F8 x ls).2.length+([x]:List aB).length) 48=true:=by
 obtain ⟨_,k2,_,_⟩:=Eu (P:=fun _=>True) (x:=x) trivial ls (false,[]) (fun _ _=>trivial) (fun _ _=>trivial);change (F8 x ls).2.length≤_ at k2;simp only [List.length_nil,cond_false] at k2;exact hC (by simp only [List.length_singleton];omega) (by omega)
theorem XT {w:aL} {b:aG} (h:eA w b=true):b8 (10:Int) (b.aK.length:Int)=bH (b.aK.length:Int) 10:=by
 have:=s7 h;simp only [b8,bH];rw [Bool.eq_iff_iff,decide_eq_true_eq,beq_iff_eq];omega
theorem Tb {b:aG} {t r:Nm} (h:b8 0 (nM b t r)=true):bW (nM b t r) b.aK.length=true:=Rg (ot h)
theorem Sp {k:Nat} {w:aL} {b:aG} {t r:Nm} {n:Int} (hr:dt r) (hk:4194304*12≤k) (hw:w.sd) (hb:b.sd):kX k w b t r n=some (LN (fv w b t r n).1 (fv w b t r n).2):=by
 have hl:=hb.2.2.2.2.2.1.1;have ht:=hw.2.2.1;unfold kX fv;rw [Ch hk hw hb,Kl (by omega) hb];cases o_:eA w b with
 | false=>rfl
 | true=>
  have h10:=s7 o_;simp only [Option.bind_some,Bool.not_true,cond_false,share,Iy (show 4194304≤k by omega) ht,ez (show 4194304≤k by omega) hr,LO,Hm (show 4194304≤k by omega) hl,XT o_,
   M7 (show 4194304*3≤k by omega) hw hb (Fj (by simp only [eA,Bool.and_eq_true] at o_;exact o_.2.1)),Hq,bL,vi,mod_mod]
  unfold Nr abL;cases (h_ w.dY t).isSome with
  | false=>rfl
  | true=>
   cases cB r with
   | false=>rfl
   | true=>
    cases b8 0 n&&b8 n 1000000 with
    | false=>rfl
    | true=>
     simp only [Bool.not_true,Bool.and_self,cond_false,cond_true];cases hv:b8 0 (nM b t r) with
     | true=>
      simp only [cond_true,Tb hv,bL];change cond (bK (Nq b (nM b t r) n) 0) _ _=_;cases bK (Nq b (nM b t r) n) 0<;>rfl
     | false=>
      simp only [cond_false];cases bK (bO .i64 n (rL w b t r)) 0 with
      | true=>rfl
      | false=>
       cases bH (b.aK.length:Int) 10 with
       | true=>rfl
       | false=>
        simp only [cond_false];refine (XR (show 4194304≤k by omega) hl _).trans ?_;rw [ZN h10];unfold Rl;cases (F8 ⟨t,r,n,bO .i64 n (rL w b t r)⟩ b.aK).1<;>rfl
theorem Sq {k:Nat} {w:aL} {b:aG} {t r:Nm} {n:Int} (hr:dt r) (hk:4194304*12≤k) (hw:w.sd) (hb:b.sd):ig k w b t r n=some (LN (fv w b t r n).1 (fv w b t r n).2):=by
 have hl:=hb.2.2.2.2.2.1.1;have ht:=hw.2.2.1;unfold ig fv;rw [Ci hk hw hb,Es (by omega) hb];have e0:(⟨b.vo,b.dR,b.dP,b.aO,b.bI,b.aK,b.aW⟩:aG)=b:=rfl;cases o_:eA w b with
 | false=>rfl
 | true=>
  have h10:=s7 o_;simp only [Option.bind_some,Bool.not_true,cond_false,share,yL (show 4194304≤k by omega) ht,Kf,f_ (show 4194304≤k by omega) hr,Hq,e0,M9 (show 4194304≤k by omega) hl,
   M8 (show 4194304*3≤k by omega) hw hb (Fj (by simp only [eA,Bool.and_eq_true] at o_;exact o_.2.1)),bL,vi,mod_mod]
  unfold Nr abL;cases (h_ w.dY t).isSome with
  | false=>rfl
  | true=>
   cases cB r with
   | false=>rfl
   | true=>
    rw [cL n 0,cL 1000000 n];cases b8 0 n with
    | false=>rfl
    | true=>
     cases b8 n 1000000 with
     | false=>rfl
     | true=>
      simp only [Bool.not_true,Bool.and_self,cond_false,cond_true];cases hv:b8 0 (nM b t r) with
      | true=>
       simp only [cond_true,Tb hv,bL];change cond (bK (Nq b (nM b t r) n) 0) _ _=_;cases bK (Nq b (nM b t r) n) 0<;>rfl
      | false=>
       simp only [cond_false];cases bK (bO .i64 n (rL w b t r)) 0 with
       | true=>rfl
       | false=>
        cases bH (b.aK.length:Int) 10 with
        | true=>rfl
        | false=>
         simp only [cond_false];refine (XS (show 4194304≤k by omega) hl _).trans ?_;rw [ZN h10];unfold Rl;cases (F8 ⟨t,r,n,bO .i64 n (rL w b t r)⟩ b.aK).1<;>rfl
end Go.Proofs.YtjkbbdldmdajkaaGreatDoor.Pu
