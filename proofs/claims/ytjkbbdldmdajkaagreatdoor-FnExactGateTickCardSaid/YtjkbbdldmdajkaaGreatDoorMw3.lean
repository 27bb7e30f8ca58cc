/- Plain words and laws. No condition. -/
import Derived.Test.YtjkbbdldmdajkaaGreatDoorMw2
set_option linter.unusedSimpArgs false
set_option linter.unusedVariables false
namespace Go.Proofs.YtjkbbdldmdajkaaGreatDoor.Pu
open Go Go.RowKit Go.Proofs.YtjkbbdldmdajkaaGreatDoor.c_ Go.Proofs.YtjkbbdldmdajkaaGreatDoor.Fn
def Zw (q:Option aF) (g:aF):Bool:=match q with
 | none=>true
 | some p=>!b8 g.Number p.Number
def Cb (b:aG) (q:Option aF) (g:aF):Bool:=(b8 1 g.Number&&b8 g.Number b.dN)&&(Zw q g&&(cB g.To&&(B8 g.By&&Al g.cJ)))
def yN (b:aG):Bool:=b8 (b.bI.length:Int) 24&&chain (Cb b) none b.bI
theorem Q4 {k:Nat} {b:aG} (hk:4194304*3≤k) (hb:b.sd):qn k b=some (yN b):=by
 obtain ⟨-,-,-,-,hg,-⟩:=hb;unfold qn yN;have h:=fD (R:=Option Bool) (x:=b.bI) (p:=Cb b) (B:=4194304*2) (l:=fun k i=>iter (ts:=tP) (R:=Bool) k (l6 (some true)) b i) (E:=some true) (O:=some false)
  (fun k=>by simp only [iter,l6,ck,cond_false]<;>rfl)
  (fun k i hi cl=>by
   obtain ⟨-,g1,g2,g3⟩:=hg.2 _ (dF hi);simp only [iter,l6,share,cf hi,bM hi,cond_true,bL,bR hi,LN,ez (show 4194304≤k by omega) g1,ez (show 4194304≤k by omega) g2,QL (show 4194304*2≤k by omega) g3,Option.bind_some,bQ hg.1 hi,Cb,B8];rcases Nat.eq_zero_or_pos i with rfl | h0
   ·simp only [sX,ml,Zw];cases b8 1 b.bI[0].Number&&b8 b.bI[0].Number b.dN<;>cases cB b.bI[0].To<;>cases seq b.bI[0].By []<;>cases cB b.bI[0].By<;>cases Al b.bI[0].cJ<;>rfl
   ·have di:i-1 < b.bI.length:=by omega
    simp only [zW h0,q7 h0 (show i≤1048576 by have:=hg.1;omega),bM di,cond_true,bL,bR di,mm h0 hi,Zw];cases b8 1 b.bI[i].Number&&b8 b.bI[i].Number b.dN<;>cases b8 b.bI[i].Number b.bI[i-1].Number<;>cases cB b.bI[i].To<;>cases seq b.bI[i].By []<;>cases cB b.bI[i].By<;>cases Al b.bI[i].cJ<;>rfl) k (by have:=hg.1;omega)
 simp only [share,cL];cases b8 (b.bI.length:Int) 24 with
 | false=>rfl
 | true=>exact h.trans (by cases chain (Cb b) none b.bI<;>rfl)
theorem Q5 {k:Nat} {b:aG} (hk:4194304*3≤k) (hb:b.sd):gP k b=some (yN b):=by
 obtain ⟨-,-,-,-,hg,-⟩:=hb;unfold gP yN;have h:=fD (R:=Option Bool) (x:=b.bI) (p:=Cb b) (B:=4194304*2) (l:=fun k i=>iter (ts:=mO) (R:=Bool) k (fw (some true)) b b.bI (b.bI.length:Int) i) (E:=some true) (O:=some false)
  (fun k=>by simp only [iter,fw,ck,cond_false]<;>rfl)
  (fun k i hi cl=>by
   obtain ⟨-,g1,g2,g3⟩:=hg.2 _ (dF hi);simp only [iter,fw,share,cf hi,bM hi,cond_true,bL,bR hi,fZ (show 4194304≤k by omega) g1,fZ (show 4194304≤k by omega) g2,QM (show 4194304*2≤k by omega) g3,Option.bind_some,bQ hg.1 hi,Cb,B8];rw [cL b.bI[i].Number,cL b.dN];rcases Nat.eq_zero_or_pos i with rfl | h0
   ·simp only [sX,ml,Zw];cases b8 1 b.bI[0].Number<;>cases b8 b.bI[0].Number b.dN<;>cases cB b.bI[0].To<;>cases seq b.bI[0].By []<;>cases cB b.bI[0].By<;>cases Al b.bI[0].cJ<;>rfl
   ·have di:i-1 < b.bI.length:=by omega
    simp only [zW h0,q7 h0 (show i≤1048576 by have:=hg.1;omega),bM di,cond_true,bL,bR di,mm h0 hi,Zw];cases b8 1 b.bI[i].Number<;>cases b8 b.bI[i].Number b.dN<;>cases b8 b.bI[i].Number b.bI[i-1].Number<;>cases cB b.bI[i].To<;>cases seq b.bI[i].By []<;>cases cB b.bI[i].By<;>cases Al b.bI[i].cJ<;>rfl) k (by have:=hg.1;omega)
 simp only [share,cL];cases b8 (b.bI.length:Int) 24 with
 | false=>rfl
 | true=>exact h.trans (by cases chain (Cb b) none b.bI<;>rfl)
def Ej (res:Nm) (q:aC×Nm):Int:=cond (bH q.1.Kind 1&&seq q.1.bC res) ((num q.2).getD 0) 0
theorem Cc (res:Nm) (q:aC×Nm):0≤Ej res q∧Ej res q < 10000000:=by
 unfold Ej;cases bH q.1.Kind 1&&seq q.1.bC res with
 | false=>simp only [cond_false];exact ⟨by decide,by decide⟩
 | true=>
  cases hn:num q.2 with
  | none=>exact ⟨by decide,by decide⟩
  | some v=>exact E4 hn
def wm (w:aL) (o:aA) (res:Nm):Int:=cond ((cw w.cg o).isSome&&!seq res []) ((((cw w.cg o).getD []).zip o.aR).foldl (fun s q=>s+Ej res q) (cond (seq res o.Kind) 1 0)) 0
theorem M4 {α:Type} {f:α→Int} {M:Int} (hf:∀ a,0≤f a∧f a < M):∀ (l:List α) (s:Int),0≤s→0≤l.foldl (fun s q=>s+f q) s∧l.foldl (fun s q=>s+f q) s≤s+M*(l.length:Int)
 | [],s,h=>by simp [h]
 | a::r,s,h=>by
  have:=M4 hf r (s+f a) (by have:=hf a;omega);have h2:=hf a;have e:M*((a::r).length:Int)=M*(r.length:Int)+M:=by rw [List.length_cons];push_cast;rw [Int.mul_add,Int.mul_one]
  rw [List.foldl_cons,e];omega
theorem Cd {w:aL} {o:aA} {res:Nm} (ho:o.aR.length≤1048576):0≤wm w o res∧wm w o res≤10485760000001:=by
 unfold wm;cases (cw w.cg o).isSome&&!seq res [] with
 | false=>simp only [cond_false];exact ⟨by decide,by decide⟩
 | true=>
  have h:=M4 (Cc res) (((cw w.cg o).getD []).zip o.aR) (cond (seq res o.Kind) 1 0) (by cases seq res o.Kind<;>decide);have hl:(((cw w.cg o).getD []).zip o.aR).length≤1048576:=by simp;omega
  have hc:(cond (seq res o.Kind) 1 0:Int)≤1:=by cases seq res o.Kind<;>decide
  simp only [cond_true];omega
theorem Q6 {k:Nat} {w:aL} {o:aA} {res:Nm} (hk:4194304*2≤k) (hw:w.cg.length≤1048576) (ho:o.aR.length≤1048576):qt k w o res=some (wm w o res):=by
 unfold qt wm;rw [sY (by omega) hw];simp only [Option.bind_some,share];cases hf:cw w.cg o with
 | none=>rfl
 | some fs=>
  have hl:=(jD hf).1;have hz:=E_ (a:=fs) (b:=o.aR) (by omega);simp only [Option.isSome_some,Option.getD_some,Bool.not_true,Bool.true_and,cond_false];cases hr:seq res [] with
  | true=>rfl
  | false=>
   have h:=fun n0:Int=>fun (h0:0≤n0∧n0≤1)=>fC (S:=Int) (x:=fs.zip o.aR) (f:=fun s q=>s+Ej res q) (B:=4194304) (l:=fun k s i=>iter (ts:=tQ) (R:=Int) k (l7 fun v=>some v) res o fs s i) (J:=fun s=>some s) (fun i s=>0≤s∧s≤1+10000000*(i:Int))
    (fun k s _=>by simp only [hz,iter,l7,ck,cond_false]<;>rfl)
    (fun k i s hi hb hI=>by
     rw [hz] at hi;have di:i < o.aR.length:=by omega
     have hw1:=Cc res (fs[i],o.aR[i]);refine ⟨?_,by rw [List.getElem_zip];push_cast;omega⟩;simp only [iter,l7,share,cf hi,bM hi,bM di,cond_true,bL,bR hi,bR di,bQ (show fs.length≤1048576 by omega) hi,MP _ hb,Option.bind_some,List.getElem_zip,Ej];cases c1:bH fs[i].Kind 1 with
     | false=>simp only [cond_false,Bool.false_and,Int.add_zero]<;>rfl
     | true=>
      cases c2:seq fs[i].bC res with
      | false=>simp only [cond_false,cond_true,Bool.and_false,Int.add_zero]<;>rfl
      | true=>
       cases hn:num o.aR[i] with
       | none=>simp only [cond_true,Bool.and_self,Option.getD_none,Int.add_zero];rfl
       | some v=>
        have:=E4 hn;simp only [cond_true,Bool.and_self,Option.getD_some];by_cases hv:0 < v
        ·rw [hJ hv,tY (by omega) (by omega)];rfl
        ·rw [dy hv,show v=0 by omega,Int.add_zero];rfl) k n0 (by rw [hz];omega) ⟨h0.1,by push_cast;omega⟩
   cases seq res o.Kind with
   | true=>exact h 1 ⟨by decide,by decide⟩
   | false=>exact h 0 ⟨by decide,by decide⟩
theorem Q7 {k:Nat} {w:aL} {o:aA} {res:Nm} (hk:4194304*2≤k) (hw:w.cg.length≤1048576) (ho:o.aR.length≤1048576):qE k w o res=some (wm w o res):=by
 unfold qE wm;rw [xB (by omega) hw];simp only [Option.bind_some,share];cases hf:cw w.cg o with
 | none=>rfl
 | some fs=>
  have hl:=(jD hf).1;have hz:=E_ (a:=fs) (b:=o.aR) (by omega);simp only [Option.isSome_some,Option.getD_some,Bool.not_true,Bool.true_and,cond_false];cases hr:seq res [] with
  | true=>rfl
  | false=>
   have h:=fun n0:Int=>fun (h0:0≤n0∧n0≤1)=>fC (S:=Int) (x:=fs.zip o.aR) (f:=fun s q=>s+Ej res q) (B:=4194304) (l:=fun k s i=>iter (ts:=tX) (R:=Int) k (mh fun v=>some v) res o s fs (fs.length:Int) i) (J:=fun s=>some s) (fun i s=>0≤s∧s≤1+10000000*(i:Int))
    (fun k s _=>by simp only [hz,iter,mh,ck,cond_false]<;>rfl)
    (fun k i s hi hb hI=>by
     rw [hz] at hi;have di:i < o.aR.length:=by omega
     have hw1:=Cc res (fs[i],o.aR[i]);refine ⟨?_,by rw [List.getElem_zip];push_cast;omega⟩;simp only [iter,mh,share,cf hi,bM hi,bM di,cond_true,bL,bR hi,bR di,bQ (show fs.length≤1048576 by omega) hi,PL _ hb,Option.bind_some,List.getElem_zip,Ej];cases c1:bH fs[i].Kind 1 with
     | false=>simp only [cond_false,Bool.false_and,Int.add_zero,Bool.not_false,cond_true]<;>rfl
     | true=>
      cases c2:seq fs[i].bC res with
      | false=>simp only [cond_false,cond_true,Bool.and_false,Int.add_zero,Bool.not_false,Bool.not_true]<;>rfl
      | true=>
       cases hn:num o.aR[i] with
       | none=>
        have e0:s+0=aP .i64 s 0:=(tY (by omega) (by omega)).symm;simp only [cond_true,Bool.and_self,Option.getD_none,e0]<;>rfl
       | some v=>
        have:=E4 hn;have e0:s+v=aP .i64 s v:=(tY (by omega) (by omega)).symm;simp only [cond_true,Bool.and_self,Option.getD_some,e0]<;>rfl) k n0 (by rw [hz];omega) ⟨h0.1,by push_cast;omega⟩
   cases seq res o.Kind with
   | true=>exact h 1 ⟨by decide,by decide⟩
   | false=>exact h 0 ⟨by decide,by decide⟩
def M5 (w:aL) (dM res:Nm) (o:aA):Int:=cond (uE w.dX 4 o.aX dM) (wm w o res) 0
def rK (w:aL) (b:aG) (dM res:Nm):Int:=b.aO.foldl (fun s o=>s+M5 w dM res o) 0
theorem M6 {k:Nat} {w:aL} {b:aG} {dM res:Nm} (hk:4194304*3≤k) (hw:w.sd) (hb:b.sd) (hl:b.aO.length≤40):pT k w b dM res=some (rK w b dM res):=by
 obtain ⟨-,-,-,P0,-⟩:=hb;unfold pT rK;simp only [share];exact fC (S:=Int) (x:=b.aO) (f:=fun s o=>s+M5 w dM res o) (B:=4194304*2) (l:=fun k s i=>iter (ts:=w8) (R:=Int) k (oW fun v=>some v) dM res w b s i) (J:=fun s=>some s) (fun i s=>0≤s∧s≤10485760000001*(i:Int))
  (fun k s _=>by simp only [iter,oW,ck,cond_false]<;>rfl)
  (fun k i s hi hb hI=>by
   have hv:=(P0.2 _ (dF hi)).2.2.2.1.1;have hr:=Cd (w:=w) (res:=res) hv;simp only [iter,oW,share,cf hi,bM hi,cond_true,bL,bR hi,bQ P0.1 hi,SO hb hw.2.2.1,Q6 hb hw.1.1 hv,Option.bind_some,M5];cases uE w.dX 4 b.aO[i].aX dM with
   | false=>exact ⟨by simp only [cond_false,Int.add_zero]<;>rfl,by simp only [cond_false];push_cast;omega⟩
   | true=>
    have e0:s+wm w b.aO[i] res=aP .i64 s (wm w b.aO[i] res):=(tY (by omega) (by omega)).symm;exact ⟨by simp only [cond_true,e0]<;>rfl,by simp only [cond_true];push_cast;omega⟩) k 0 (by omega) (by simp)
theorem M7 {k:Nat} {w:aL} {b:aG} {dM res:Nm} (hk:4194304*3≤k) (hw:w.sd) (hb:b.sd) (hl:b.aO.length≤40):pK k w b dM res=some (rK w b dM res):=by
 obtain ⟨-,-,-,P0,-⟩:=hb;unfold pK rK;simp only [share];exact fC (S:=Int) (x:=b.aO) (f:=fun s o=>s+M5 w dM res o) (B:=4194304*2) (l:=fun k s i=>iter (ts:=xa) (R:=Int) k (o5 fun v=>some v) dM res w s b.aO (b.aO.length:Int) i) (J:=fun s=>some s) (fun i s=>0≤s∧s≤10485760000001*(i:Int))
  (fun k s _=>by simp only [iter,o5,ck,cond_false]<;>rfl)
  (fun k i s hi hb hI=>by
   have hv:=(P0.2 _ (dF hi)).2.2.2.1.1;have hr:=Cd (w:=w) (res:=res) hv;simp only [iter,o5,share,cf hi,bM hi,cond_true,bL,bR hi,bQ P0.1 hi,SP hb hw.2.2.1,Q7 hb hw.1.1 hv,Option.bind_some,M5];cases uE w.dX 4 b.aO[i].aX dM with
   | false=>exact ⟨by simp only [cond_false,Int.add_zero]<;>rfl,by simp only [cond_false];push_cast;omega⟩
   | true=>
    have e0:s+wm w b.aO[i] res=aP .i64 s (wm w b.aO[i] res):=(tY (by omega) (by omega)).symm;exact ⟨by simp only [cond_true,e0]<;>rfl,by simp only [cond_true];push_cast;omega⟩) k 0 (by omega) (by simp)
theorem Lk {w:aL} {b:aG} {dM res:Nm} (hb:b.sd) (hl:b.aO.length≤40):0≤rK w b dM res∧rK w b dM res≤419430400000040:=by
 obtain ⟨-,-,-,P0,-⟩:=hb;unfold rK;have:∀ (l:List aA) (s:Int),(∀ o,o∈l→o.aR.length≤1048576)→0≤s→0≤l.foldl (fun s o=>s+M5 w dM res o) s∧l.foldl (fun s o=>s+M5 w dM res o) s≤s+10485760000001*(l.length:Int):=by
  intro l
  induction l with
  | nil=>intro s _ h;simp [h]
  | cons a r ih=>
   intro s h h0;have hr:=Cd (w:=w) (res:=res) (h a (by simp));have hu:0≤M5 w dM res a∧M5 w dM res a≤10485760000001:=by
    unfold M5;cases uE w.dX 4 a.aX dM with
    | false=>simp only [cond_false];exact ⟨by decide,by decide⟩
    | true=>exact hr
   have:=ih (s+M5 w dM res a) (fun o ho=>h o (by simp [ho])) (by omega);rw [List.foldl_cons,List.length_cons]
   push_cast
   omega
 have h:=this b.aO 0 (fun o ho=>(P0.2 o ho).2.2.2.1.1) (by decide);omega
section
variable {α R S:Type} {x:List α} {B:Nat}
theorem Ll {p:Option α→α→Bool} {f:S→α→S} {l:Nat→S→Int→R} {E:S→R} {O:R} (he:∀ k s,l (k+1) s (x.length:Int)=E s)
  (h:∀ k i s (hi:i < x.length),B≤k→l (k+1) s (i:Int)=cond (p (ahead x i) x[i]) (l k (f s x[i]) ((i+1:Nat):Int)) O) (k:Nat) (s:S) (hk:B+x.length+1≤k):l k s 0=cond (chain p none x) (E (x.foldl f s)) O:=by
 have go:∀ m i k s,i+m=x.length→B+m+1≤k→l k s (i:Int)=cond (chain p (ahead x i) (x.drop i)) (E ((x.drop i).foldl f s)) O:=by
  intro m
  induction m with
  | zero=>
   intro i k s h1 h2;obtain rfl:i=x.length:=by omega
   obtain ⟨k,rfl⟩:∃ j,k=j+1:=⟨k-1,by omega⟩;simp [he,chain]
  | succ m ih=>
   intro i k s h1 h2;obtain ⟨k,rfl⟩:∃ j,k=j+1:=⟨k-1,by omega⟩;have hi:i < x.length:=by omega
   rw [h k i s hi (by omega),List.drop_eq_getElem_cons hi];have e:some x[i]=ahead x (i+1):=by simp [ahead]
   simp only [chain,e,List.foldl_cons];cases p (ahead x i) x[i] with
   | true=>simpa using ih (i+1) k _ (by omega) (by omega)
   | false=>rfl
 have:=go x.length 0 k s (by omega) (by omega);simpa [ahead] using this
end
def Ek (a b:cq):Bool:=seq a.dM b.dM&&seq a.resource b.resource
theorem Ce {a b:cq}:Ek a b=true↔a=b:=by
 cases a;cases b;simp only [Ek,Bool.and_eq_true,eP,cq.mk.injEq]
theorem Zx (a b:cq):Ek a b=Ek b a:=by
 rw [Bool.eq_iff_iff,Ce,Ce];exact eq_comm
def Cf (a:cq) (m:List c5):Int:=nM (fun p:c5=>Ek a p.Key) (fun p:c5=>p.Mu) (0:Int) m
def p8 (a:cq) (v:Int) (m:List c5):List c5:=pA (fun p:c5=>Ek a p.Key) m ⟨a,v⟩
theorem IB (a c:cq) (v:Int):∀ (m:List c5),Cf a (p8 c v m)=cond (Ek a c) v (Cf a m)
 | []=>by
  unfold Cf p8;rw [MK,m7]
 | q::m=>by
  unfold Cf p8;rw [J4];cases h:Ek c q.Key with
  | true=>
   have e:=Ce.1 h;rw [cond_true,m7,m7,← e];cases Ek a c<;>rfl
  | false=>
   rw [cond_false,m7,m7];have ih:=IB a c v m;unfold Cf p8 at ih;rw [ih];cases h1:Ek a q.Key with
   | false=>rfl
   | true=>
    have e:=Ce.1 h1;subst e;rw [show Ek q.Key c=false by rw [Zx];exact h];rfl
def Kf (g:aB):cq:=⟨g.aX,g.aN⟩
def UU (q:Option aB) (g:aB):Bool:=match q with
 | none=>true
 | some p=>nJ p.aX p.aN g.aX g.aN
def Zy (w:aL) (g:aB):Bool:=(hP w.dX g.aX).isSome&&(cB g.aN&&(b8 0 g.gE&&(b8 g.gE g.bT&&b8 g.bT 1000000)))
def SQ (w:aL) (q:Option aB) (g:aB):Bool:=Zy w g&&UU q g
theorem Zz {a b c d e f:Nm} (h1:nJ a b c d=true) (h2:nJ c d e f=true):nJ a b e f=true:=by
 simp only [nJ,Bool.or_eq_true,Bool.and_eq_true] at *;rcases h1 with h1 | ⟨h1,h3⟩
 ·rcases h2 with h2 | ⟨h2,-⟩
  ·exact .inl (QK h1 h2)
  ·rw [← eP.1 h2];exact .inl h1
 ·rw [eP.1 h1];rcases h2 with h2 | ⟨h2,h4⟩
  ·exact .inl h2
  ·exact .inr ⟨h2,QK h3 h4⟩
theorem XF (a b:Nm):nJ a b a b=false:=by
 simp only [nJ,L9,Bool.and_false,Bool.or_false]
theorem P2:∀ {l:List aB} {q:Option aB},chain UU q l=true→(l.map Kf).Nodup∧∀ p,q=some p→∀ y,y∈l→nJ p.aX p.aN y.aX y.aN=true
 | [],_,_=>⟨List.nodup_nil,fun _ _ _ h=>by cases h⟩
 | a::r,q,h=>by
  simp only [chain,Bool.and_eq_true] at h;obtain ⟨h1,h2⟩:=h;obtain ⟨h3,h4⟩:=P2 h2;refine ⟨List.nodup_cons.2 ⟨fun hm=>?_,h3⟩,fun p hp y hy=>?_⟩
  ·obtain ⟨y,hy,e⟩:=List.mem_map.1 hm;have:=h4 a rfl y hy;simp only [Kf,cq.mk.injEq] at e;rw [e.1,e.2,XF] at this;cases this
  ·subst hp;rcases List.mem_cons.1 hy with e | e
   ·exact e▸h1
   ·exact Zz h1 (h4 a rfl y e)
def nL (b:aG) (dM res:Nm):Int:=uB (fun g=>seq g.aX dM&&seq g.aN res) b.aK 0
theorem Hh {k:Nat} {b:aG} {dM res:Nm} (hk:4194304≤k) (hb:b.aK.length≤1048576):mW k b dM res=some (nL b dM res):=by
 unfold mW;simp only [share];exact m8 (x:=b.aK) (p:=fun g=>seq g.aX dM&&seq g.aN res) (l:=fun k i=>iter (ts:=w7) (R:=Int) k (oV (some (-1))) dM res b i)
  (fun k=>by simp only [iter,oV,ck,cond_false]<;>rfl)
  (fun k i hi=>by
   simp only [iter,oV,share,cf hi,bM hi,cond_true,bL,bR hi,bQ hb hi];cases seq b.aK[i].aX dM<;>rfl) k (by omega)
theorem M8 {k:Nat} {b:aG} {dM res:Nm} (hk:4194304≤k) (hb:b.aK.length≤1048576):eC k b dM res=some (nL b dM res):=by
 unfold eC;simp only [share];exact m8 (x:=b.aK) (p:=fun g=>seq g.aX dM&&seq g.aN res) (l:=fun k i=>iter (ts:=oe) (R:=Int) k (gv (some (-1))) dM res b.aK (b.aK.length:Int) i)
  (fun k=>by simp only [iter,gv,ck,cond_false]<;>rfl)
  (fun k i hi=>by
   simp only [iter,gv,share,cf hi,bM hi,cond_true,bL,bR hi,bQ hb hi];cases seq b.aK[i].aX dM<;>rfl) k (by omega)
def UW (z p:aE):Bool:=cond (!seq z.fL p.fL) (slt z.fL p.fL) (nJ z.aX z.aN p.aX p.aN)
def UX (q:Option aE) (p:aE):Bool:=match q with
 | none=>true
 | some z=>UW z p
def UY (b:aG) (p:aE):Bool:=cB p.fL&&(!bK (nL b p.aX p.aN) 0&&((b8 1 p.cF&&b8 p.cF 1000000)&&(b8 b.dP p.dW&&b8 p.dW (aP .i64 b.dP 10))))
def M9 (b:aG) (q:Option aE) (p:aE):Bool:=UY b p&&UX q p
theorem UZ (k:Nat) (a b:aE):∃ v,qp k a b=some v∧b8 0 v=!UW a b:=by
 unfold qp UW;cases h:seq a.fL b.fL with
 | true=>exact ⟨_,by simp only [Bool.not_true,cond_false,Mb];rfl,Q3 ..⟩
 | false=>
  refine ⟨_,by simp only [Bool.not_false,cond_true,Q2];rfl,?_⟩;unfold Q1;rw [h];cases slt a.fL b.fL<;>rfl
theorem Pf (k:Nat) (a b:aE):oE k a b=some (UW a b):=by
 unfold oE UW nJ;cases seq a.fL b.fL with
 | false=>rfl
 | true=>
  cases h:seq a.aX b.aX with
  | false=>simp
  | true=>rw [Ma h];rfl
def wk (a:cq) (p:aE):Int:=cond (Ek a ⟨p.aX,p.aN⟩) p.cF 0
def SS (b:aG) (a:cq):Int:=b.aW.foldl (fun s p=>s+wk a p) 0
def ac4 (b:aG):Prop:=∀ p,p∈b.aW→1≤p.cF∧p.cF≤1000000
theorem Kg {b:aG}:∀ {l:List aE} {q:Option aE},chain (M9 b) q l=true→∀ p,p∈l→1≤p.cF∧p.cF≤1000000
 | [],_,_,_,h=>by cases h
 | a::r,q,h,p,hp=>by
  simp only [chain,Bool.and_eq_true] at h;rcases List.mem_cons.1 hp with e | e
  ·subst e;simp only [M9,UY,Bool.and_eq_true] at h;obtain ⟨⟨⟨-,-,⟨h1,h2⟩,-⟩,-⟩,-⟩:=h;exact ⟨oq h1,oq h2⟩
  ·exact Kg h.2 p e
theorem IC {a:cq}:∀ (l:List aE) (s:Int),(∀ p,p∈l→1≤p.cF∧p.cF≤1000000)→l.foldl (fun s p=>s+wk a p) s=s+l.foldl (fun s p=>s+wk a p) 0∧0≤l.foldl (fun s p=>s+wk a p) 0∧l.foldl (fun s p=>s+wk a p) 0≤1000000*(l.length:Int)
 | [],s,_=>by simp
 | p::r,s,h=>by
  have h1:0≤wk a p∧wk a p≤1000000:=by
   have:=h p (by simp);unfold wk;cases Ek a ⟨p.aX,p.aN⟩ with
   | true=>simp only [cond_true];omega
   | false=>simp only [cond_false];omega
  have ih1:=IC (a:=a) r (s+wk a p) (fun q hq=>h q (by simp [hq]));have ih2:=IC (a:=a) r (0+wk a p) (fun q hq=>h q (by simp [hq]));rw [List.foldl_cons,List.foldl_cons,List.length_cons]
  push_cast
  omega
theorem XG {k:Nat} {b:aG} {dM res:Nm} (hk:4194304≤k) (hl:b.aW.length≤1048576) (hg:ac4 b):BP k b dM res=some (SS b ⟨dM,res⟩):=by
 unfold BP SS;simp only [share];exact fC (S:=Int) (x:=b.aW) (f:=fun s p=>s+wk ⟨dM,res⟩ p) (B:=0) (l:=fun k s i=>iter (ts:=AL) (R:=Int) k (uW fun v=>some v) dM res b s i) (J:=fun s=>some s) (fun i s=>0≤s∧s≤1000000*(i:Int))
  (fun k s _=>by simp only [iter,uW,ck,cond_false]<;>rfl)
  (fun k i s hi hb hI=>by
   have hv:=hg _ (dF hi);have e0:s+b.aW[i].cF=aP .i64 s b.aW[i].cF:=(tY (by omega) (by omega)).symm;simp only [iter,uW,share,cf hi,bM hi,cond_true,bL,bR hi,bQ hl hi,wk,Ek];rw [Ee dM,Ee res];cases seq b.aW[i].aX dM with
   | false=>exact ⟨by simp only [cond_false,Bool.false_and,Int.add_zero]<;>rfl,by simp only [cond_false,Bool.false_and];push_cast;omega⟩
   | true=>
    cases seq b.aW[i].aN res with
    | false=>exact ⟨by simp only [cond_false,Bool.and_false,Int.add_zero]<;>rfl,by simp only [cond_false,Bool.and_false];push_cast;omega⟩
    | true=>exact ⟨by simp only [cond_true,Bool.and_self,e0]<;>rfl,by simp only [cond_true,Bool.and_self];push_cast;omega⟩) k 0 (by omega) (by simp)
def SU (w:aL) (b:aG) (g:aB):Bool:=bH (rK w b g.aX g.aN+SS b (Kf g)+g.gE) g.bT
def Hi (w:aL) (b:aG):Bool:=(b8 (b.aK.length:Int) 10&&b8 (b.aW.length:Int) 24)&&(chain (M9 b) none b.aW&&(chain (SQ w) none b.aK&&b.aK.all (SU w b)))
theorem Pg {w:aL} {b:aG} {k:Nat} (hk:4194304*5≤k) (hw:w.sd) (hb:b.sd) (hl:b.aO.length≤40) (hg:ac4 b):
  iter (ts:=nZ) (R:=Bool) k (jv (some true)) w b (0:Int)=some (chain (SQ w) none b.aK&&b.aK.all (SU w b)):=by
 have cl:=hb;obtain ⟨-,-,-,-,-,hle,YV⟩:=hb;have h:=fD (R:=Option Bool) (x:=b.aK) (p:=fun q g=>SQ w q g&&SU w b g) (B:=4194304*3) (l:=fun k i=>iter (ts:=nZ) (R:=Bool) k (jv (some true)) w b i) (E:=some true) (O:=some false)
  (fun k=>by simp only [iter,jv,ck,cond_false]<;>rfl)
  (fun k i hi Y_=>by
   have hgi:=hle.2 _ (dF hi);simp only [iter,jv,share,cf hi,bM hi,cond_true,bL,bR hi,Iw (show 4194304≤k by omega) hw.2.2.1,ez (show 4194304≤k by omega) hgi.2.1,M6 (dM:=b.aK[i].aX) (res:=b.aK[i].aN) Y_ hw cl hl,XG (dM:=b.aK[i].aX) (res:=b.aK[i].aN) (show 4194304≤k by omega) YV.1 hg,Option.bind_some,bQ hle.1 hi,SQ,Zy,cL,SU,Kf];have hu:=Lk (w:=w) (dM:=b.aK[i].aX) (res:=b.aK[i].aN) cl hl;have ho:=(IC (a:=⟨b.aK[i].aX,b.aK[i].aN⟩) b.aW 0 hg).2;have JG:0≤SS b ⟨b.aK[i].aX,b.aK[i].aN⟩∧SS b ⟨b.aK[i].aX,b.aK[i].aN⟩≤1000000*(b.aW.length:Int):=ho;have hpl:=YV.1;cases (hP w.dX b.aK[i].aX).isSome with
   | false=>rfl
   | true=>
    cases cB b.aK[i].aN with
    | false=>rfl
    | true=>
     cases f1:b8 0 b.aK[i].gE with
     | false=>rfl
     | true=>
      cases f2:b8 b.aK[i].gE b.aK[i].bT with
      | false=>rfl
      | true=>
       cases f3:b8 b.aK[i].bT 1000000 with
       | false=>rfl
       | true=>
        have f1':=oq f1;have f2':=oq f2;have f3':=oq f3;rw [tY (m:=rK w b b.aK[i].aX b.aK[i].aN) (by omega) (by omega),tY (by omega) (by omega)];rcases Nat.eq_zero_or_pos i with rfl | h0
        ·simp only [Bool.not_true,cond_false,C3 (show (((0:Nat):Int))≤0 by omega),ml,UU,Bool.and_self,Bool.true_and];cases bH (rK w b b.aK[0].aX b.aK[0].aN+SS b ⟨b.aK[0].aX,b.aK[0].aN⟩+b.aK[0].gE) b.aK[0].bT<;>rfl
        ·have di:i-1 < b.aK.length:=by omega
         simp only [Bool.not_true,Bool.not_false,cond_true,cond_false,Sq (show ¬ ((i:Int))≤0 by omega),q7 h0 (show i≤1048576 by have:=hle.1;omega),bM di,bL,bR di,mm h0 hi,UU,Mb,Option.bind_some,Q3,Bool.and_self,Bool.true_and];cases nJ b.aK[i-1].aX b.aK[i-1].aN b.aK[i].aX b.aK[i].aN<;>cases bH (rK w b b.aK[i].aX b.aK[i].aN+SS b ⟨b.aK[i].aX,b.aK[i].aN⟩+b.aK[i].gE) b.aK[i].bT<;>rfl) k (by have:=hle.1;omega)
 rw [uz,uA] at h;exact h.trans (by cases chain (SQ w) none b.aK&&b.aK.all (SU w b)<;>rfl)
theorem U0 {k:Nat} {w:aL} {b:aG} (hk:4194304*5≤k) (hw:w.sd) (hb:b.sd) (hl:b.aO.length≤40):uX k w b=some (Hi w b):=by
 have cl:=hb;obtain ⟨-,-,-,-,-,hle,YV⟩:=hb;unfold uX Hi;have h:=fun J:aL→aG→Option Bool=>fD (R:=Option Bool) (x:=b.aW) (p:=M9 b) (B:=4194304*2) (l:=fun k i=>iter (ts:=w9) (R:=Bool) k (oX J) w b i) (E:=J w b) (O:=some false)
  (fun k=>by simp only [iter,oX,ck,cond_false]<;>rfl)
  (fun k i hi Y_=>by
   have hpi:=YV.2 _ (dF hi);simp only [iter,oX,share,cf hi,bM hi,cond_true,bL,bR hi,ez (show 4194304≤k by omega) hpi.1,Hh (show 4194304≤k by omega) hle.1,LN,Option.bind_some,bQ YV.1 hi,M9,UY];rcases Nat.eq_zero_or_pos i with rfl | h0
   ·simp only [sX,ml,UX];cases cB b.aW[0].fL<;>cases bK (nL b b.aW[0].aX b.aW[0].aN) 0<;>cases b8 1 b.aW[0].cF&&b8 b.aW[0].cF 1000000<;>cases b8 b.dP b.aW[0].dW&&b8 b.aW[0].dW (aP .i64 b.dP 10)<;>rfl
   ·have di:i-1 < b.aW.length:=by omega
    obtain ⟨v,v1,v2⟩:=UZ k b.aW[i-1] b.aW[i];simp only [zW h0,q7 h0 (show i≤1048576 by have:=YV.1;omega),bM di,cond_true,bL,bR di,mm h0 hi,v1,v2,Option.bind_some,UX];cases cB b.aW[i].fL<;>cases bK (nL b b.aW[i].aX b.aW[i].aN) 0<;>cases b8 1 b.aW[i].cF&&b8 b.aW[i].cF 1000000<;>cases b8 b.dP b.aW[i].dW&&b8 b.aW[i].dW (aP .i64 b.dP 10)<;>cases UW b.aW[i-1] b.aW[i]<;>rfl) k (by have:=YV.1;omega)
 simp only [share,cL];cases b8 (b.aK.length:Int) 10 with
 | false=>rfl
 | true=>
  cases b8 (b.aW.length:Int) 24 with
  | false=>rfl
  | true=>
   refine (h _).trans ?_;cases hc:chain (M9 b) none b.aW with
   | false=>rfl
   | true=>exact (Pg hk hw cl hl fun p hp=>Kg hc p hp).trans rfl
theorem Wc {α:Type} {p q:α→Bool}:∀ {l:List α},(∀ a,a∈l→p a=q a)→l.all p=l.all q
 | [],_=>rfl
 | a::r,h=>by rw [List.all_cons,List.all_cons,h a (by simp),Wc (l:=r) fun b hb=>h b (by simp [hb])]
def U1 (w:aL) (b:aG) (m:List c5) (g:aB):List c5:=p8 (Kf g) (aP .i64 g.gE (rK w b g.aX g.aN)) m
def rQ (p:aE):cq:=⟨p.aX,p.aN⟩
def XH (m:List c5) (p:aE):List c5:=p8 (rQ p) (aP .i64 (Cf (rQ p) m) p.cF) m
theorem adO {a b:cq} (h:a≠b):Ek a b=false:=by
 cases e:Ek a b with
 | false=>rfl
 | true=>exact absurd (Ce.1 e) h
theorem ZA (a:cq):Ek a a=true:=Ce.2 rfl
theorem M_ {w:aL} {b:aG} {a:cq}:∀ (l:List aB) (m:List c5),(∀ g,g∈l→a≠Kf g)→Cf a (l.foldl (U1 w b) m)=Cf a m
 | [],_,_=>rfl
 | g::r,m,h=>by
  rw [List.foldl_cons,M_ r _ fun x hx=>h x (by simp [hx])];unfold U1;rw [IB,adO (h g (by simp))];rfl
theorem SV {w:aL} {b:aG}:∀ (l:List aB) (m:List c5),(l.map Kf).Nodup→∀ g,g∈l→Cf (Kf g) (l.foldl (U1 w b) m)=aP .i64 g.gE (rK w b g.aX g.aN)
 | [],_,_,_,h=>by cases h
 | g::r,m,hn,x,hx=>by
  simp only [List.map_cons,List.nodup_cons] at hn;rw [List.foldl_cons];rcases List.mem_cons.1 hx with e | e
  ·subst e;rw [M_ r _ fun y hy e=>hn.1 (by rw [e];exact List.mem_map_of_mem hy)];unfold U1;rw [IB,ZA];rfl
  ·exact SV r _ hn.2 x e
theorem SW {a:cq}:∀ (l:List aE) (m:List c5),(∀ p,p∈l→1≤p.cF∧p.cF≤1000000)→0≤Cf a m→Cf a m+1000000*(l.length:Int)≤9223372036854775807→Cf a (l.foldl XH m)=Cf a m+l.foldl (fun s p=>s+wk a p) 0
 | [],m,_,_,_=>by simp
 | p::r,m,h,h0,h1=>by
  have hp:=h p (by simp);have hr:∀ q,q∈r→1≤q.cF∧q.cF≤1000000:=fun q hq=>h q (by simp [hq]);rw [List.length_cons] at h1
  push_cast at h1
  have hg:Cf a (XH m p)=Cf a m+wk a p:=by
   unfold XH wk;rw [IB];have ek:(⟨p.aX,p.aN⟩:cq)=rQ p:=rfl;rw [ek];cases e:Ek a (rQ p) with
   | false=>simp only [cond_false,Int.add_zero]
   | true=>
    simp only [cond_true];rw [← Ce.1 e,tY (by omega) (by omega)]
  have ho:0≤wk a p∧wk a p≤1000000:=by
   unfold wk;cases Ek a ⟨p.aX,p.aN⟩ with
   | true=>simp only [cond_true];omega
   | false=>simp only [cond_false];omega
  rw [List.foldl_cons,SW r (XH m p) hr (by omega) (by omega),hg,List.foldl_cons,(IC (a:=a) r (0+wk a p) hr).1];omega
theorem U2 {k:Nat} {w:aL} {b:aG} (hk:4194304*5≤k) (hw:w.sd) (hb:b.sd) (hl:b.aO.length≤40):jc k b w=some (Hi w b):=by
 have cl:=hb;obtain ⟨-,-,-,-,-,hle,YV⟩:=hb;unfold jc Hi;have h5:=fun J:aG→List c5→Option Bool=>Ll (R:=Option Bool) (x:=b.aK) (p:=SQ w) (f:=U1 w b) (B:=4194304*3) (l:=fun k m i=>iter (ts:=nN) (R:=Bool) k (gg J) b w b.aK (b.aK.length:Int) i m) (E:=fun m=>J b m) (O:=some false)
  (fun k m=>by simp only [iter,gg,ck,cond_false]<;>rfl)
  (fun k i m hi Y_=>by
   have hgi:=hle.2 _ (dF hi);simp only [iter,gg,share,cf hi,bM hi,cond_true,bL,bR hi,yI (show 4194304≤k by omega) hw.2.2.1,Ke,fZ (show 4194304≤k by omega) hgi.2.1,M7 (dM:=b.aK[i].aX) (res:=b.aK[i].aN) Y_ hw cl hl,Option.bind_some,SQ,Zy];rw [bQ hle.1 hi,cL b.aK[i].gE,cL b.aK[i].bT,cL 1000000];rcases Nat.eq_zero_or_pos i with rfl | h0
   ·simp only [sX,ml,UU];cases (hP w.dX b.aK[0].aX).isSome<;>cases cB b.aK[0].aN<;>cases b8 0 b.aK[0].gE<;>cases b8 b.aK[0].gE b.aK[0].bT<;>cases b8 b.aK[0].bT 1000000<;>rfl
   ·have di:i-1 < b.aK.length:=by omega
    simp only [zW h0,q7 h0 (show i≤1048576 by have:=hle.1;omega),bM di,cond_true,bL,bR di,mm h0 hi,UU,nJ];cases h1:seq b.aK[i-1].aX b.aK[i].aX with
    | true=>
     rw [Ma h1];cases slt b.aK[i-1].aN b.aK[i].aN<;>cases (hP w.dX b.aK[i].aX).isSome<;>cases cB b.aK[i].aN<;>cases b8 0 b.aK[i].gE<;>cases b8 b.aK[i].gE b.aK[i].bT<;>cases b8 b.aK[i].bT 1000000<;>rfl
    | false=>
     cases slt b.aK[i-1].aX b.aK[i].aX<;>cases (hP w.dX b.aK[i].aX).isSome<;>cases cB b.aK[i].aN<;>cases b8 0 b.aK[i].gE<;>cases b8 b.aK[i].gE b.aK[i].bT<;>cases b8 b.aK[i].bT 1000000<;>rfl) k [] (by have:=hle.1;omega)
 have h16:=fun (J:aG→List c5→Option Bool) (m:List c5)=>Ll (R:=Option Bool) (x:=b.aW) (p:=M9 b) (f:=XH) (B:=4194304*2) (l:=fun k m i=>iter (ts:=nk) (R:=Bool) k (fK J) b b.aW (b.aW.length:Int) i m) (E:=fun m=>J b m) (O:=some false)
  (fun k m=>by simp only [iter,fK,ck,cond_false]<;>rfl)
  (fun k i m hi Y_=>by
   have hpi:=YV.2 _ (dF hi);simp only [iter,fK,share,cf hi,bM hi,cond_true,bL,bR hi,M8 (show 4194304≤k by omega) hle.1,fZ (show 4194304≤k by omega) hpi.1,Pf,Option.bind_some,M9,UY];rw [bQ YV.1 hi,cL b.aW[i].cF,cL 1000000,cL b.aW[i].dW,cL (aP .i64 b.dP 10)];rcases Nat.eq_zero_or_pos i with rfl | h0
   ·simp only [sX,ml,UX];cases cB b.aW[0].fL<;>cases bK (nL b b.aW[0].aX b.aW[0].aN) 0<;>cases b8 1 b.aW[0].cF<;>cases b8 b.aW[0].cF 1000000<;>cases b8 b.dP b.aW[0].dW<;>cases b8 b.aW[0].dW (aP .i64 b.dP 10)<;>rfl
   ·have di:i-1 < b.aW.length:=by omega
    simp only [zW h0,q7 h0 (show i≤1048576 by have:=YV.1;omega),bM di,cond_true,bL,bR di,mm h0 hi,UX];cases UW b.aW[i-1] b.aW[i]<;>cases cB b.aW[i].fL<;>cases bK (nL b b.aW[i].aX b.aW[i].aN) 0<;>cases b8 1 b.aW[i].cF<;>cases b8 b.aW[i].cF 1000000<;>cases b8 b.dP b.aW[i].dW<;>cases b8 b.aW[i].dW (aP .i64 b.dP 10)<;>rfl) k m (by have:=YV.1;omega)
 have h26:=fun m:List c5=>gM (R:=Option Bool) (x:=b.aK) (p:=fun g=>bH (Cf (Kf g) m) g.bT) (B:=0) (l:=fun k i=>iter (ts:=nj) (R:=Bool) k (fJ (some true)) b.aK (b.aK.length:Int) i m) (E:=some true) (O:=some false)
  (fun k=>by simp only [iter,fJ,ck,cond_false]<;>rfl)
  (fun k i hi _=>by
   simp only [iter,fJ,cf hi,bM hi,cond_true,bL,bR hi,bQ hle.1 hi];have e:nM (fun p:c5=>(seq b.aK[i].aX p.Key.dM&&(seq b.aK[i].aN p.Key.resource))) (fun p:c5=>p.Mu) (0:Int) m=Cf (Kf b.aK[i]) m:=rfl;rw [e];cases bH (Cf (Kf b.aK[i]) m) b.aK[i].bT<;>rfl) k (by have:=hle.1;omega)
 simp only [share,cL];cases hl1:b8 (b.aK.length:Int) 10 with
 | false=>rfl
 | true=>
  cases Q8:b8 (b.aW.length:Int) 24 with
  | false=>rfl
  | true=>
   refine (h5 _).trans ?_;cases hc:chain (SQ w) none b.aK with
   | false=>simp only [Bool.false_and,Bool.and_false];rfl
   | true=>
    refine (h16 _ _).trans ?_;cases hp:chain (M9 b) none b.aW with
    | false=>rfl
    | true=>
     refine (h26 _).trans ?_;have hg:=Kg hp;have adP:chain (fun q g=>Zy w g&&UU q g) none b.aK=true:=hc;rw [uz,uA] at adP;have ox:=List.all_eq_true.1 (Bool.and_eq_true_iff.1 adP).1;have AA:=(P2 (Bool.and_eq_true_iff.1 adP).2).1;have ahA:=oq Q8;rw [Wc (p:=fun g=>bH (Cf (Kf g) (b.aW.foldl XH (b.aK.foldl (U1 w b) []))) g.bT) (q:=SU w b) fun g hgm=>by
      have hu:=Lk (w:=w) (dM:=g.aX) (res:=g.aN) cl hl;have h0:=ox g hgm;simp only [Zy,Bool.and_eq_true] at h0;have f1:=oq h0.2.2.1;have f2:=oq h0.2.2.2.1;have f3:=oq h0.2.2.2.2;have e1:=SV (w:=w) (b:=b) b.aK [] AA g hgm;rw [tY (by omega) (by omega)] at e1;have e2:=SW (a:=Kf g) b.aW (b.aK.foldl (U1 w b) []) hg (by omega) (by omega);rw [e2,e1];unfold SU SS
      congr 1
      omega]
     cases b.aK.all (SU w b)<;>rfl
def eA (w:aL) (b:aG):Bool:=(C5 w&&((b8 0 b.vj&&b8 b.vj 1000000)&&((b8 0 b.dP&&b8 b.dP 1000000)&&(b8 0 b.dN&&b8 b.dN b.vj))))&&(o_ w b&&(yN b&&Hi w b))
theorem Fb {w:aL} {b:aG} (h:o_ w b=true):b.aO.length≤40:=by
 simp only [o_,Bool.and_eq_true] at h;have:=oq h.1;omega
theorem Lm {w:aL} (h:C5 w=true):gy w.cg w.iN=true:=by
 simp only [C5,Bool.and_eq_true] at h;exact h.1
theorem Cg {k:Nat} {w:aL} {b:aG} (hk:4194304*12≤k) (hw:w.sd) (hb:b.sd):iW k w b=some (eA w b):=by
 unfold iW eA;simp only [share,SB (show 4194304*6≤k by omega) hw,LN,Option.bind_some,Q4 (show 4194304*3≤k by omega) hb];cases hl:C5 w with
 | false=>rfl
 | true=>
  rw [Pd (show 4194304*10≤k by omega) hw hb (Lm hl)];cases b8 0 b.vj&&b8 b.vj 1000000 with
  | false=>rfl
  | true=>
   cases b8 0 b.dP&&b8 b.dP 1000000 with
   | false=>rfl
   | true=>
    cases b8 0 b.dN&&b8 b.dN b.vj with
    | false=>rfl
    | true=>
     cases ho:o_ w b with
     | false=>rfl
     | true=>
      rw [U0 (show 4194304*5≤k by omega) hw hb (Fb ho)];cases yN b<;>rfl
theorem Ch {k:Nat} {w:aL} {b:aG} (hk:4194304*12≤k) (hw:w.sd) (hb:b.sd):iV k w b=some (eA w b):=by
 unfold iV eA;simp only [share,SC (show 4194304*7≤k by omega) hw,Option.bind_some,Q5 (show 4194304*3≤k by omega) hb,cL];cases hl:C5 w with
 | false=>rfl
 | true=>
  rw [Pe hk hw hb (Lm hl)];cases b8 0 b.vj with
  | false=>rfl
  | true=>
   cases b8 b.vj 1000000 with
   | false=>rfl
   | true=>
    cases b8 0 b.dP with
    | false=>rfl
    | true=>
     cases b8 b.dP 1000000 with
     | false=>rfl
     | true=>
      cases b8 0 b.dN with
      | false=>rfl
      | true=>
       cases b8 b.dN b.vj with
       | false=>rfl
       | true=>
        cases ho:o_ w b with
        | false=>rfl
        | true=>
         rw [U2 (show 4194304*5≤k by omega) hw hb (Fb ho)];cases yN b<;>rfl
theorem ac5 {w:aL} (h:C5 w=true):Iv w.dX=true:=by
 simp only [C5,Bool.and_eq_true] at h;exact h.2
theorem adQ {w:aL} {b:aG} (h:eA w b=true):C5 w=true:=by
 simp only [eA,Bool.and_eq_true] at h;exact h.1.1
theorem Q9 {b:aG}:∀ {l:List aF} {q:Option aF},chain (Cb b) q l=true→∀ g,g∈l→Al g.cJ=true
 | [],_,_,_,h=>by cases h
 | a::r,q,h,g,hg=>by
  simp only [chain,Bool.and_eq_true] at h;rcases List.mem_cons.1 hg with e | e
  ·subst e;have h1:=h.1;simp only [Cb,Bool.and_eq_true] at h1;exact h1.2.2.2.2
  ·exact Q9 h.2 g e
theorem Yd.ge {α:Type} {F:Nat→Option α} {a:α} (C:Nat) (h:∀ k,C≤k→F k=some a):Yd F a:=⟨C,h⟩
theorem Na (x:List (List UInt8)):fR mn x=x.length:=by
 induction x with
 | nil=>rfl
 | cons a r ih=>simp only [fR,ih,mn,List.length_cons];omega
theorem Ln {α:Type} {w:α→Int} {b:Int} {xs:List α} (hx:xs.length≤1048576) (hb:0≤b) (h:∀ x,x∈xs→w x≤b):fR w xs≤1048576*b:=
 Int.le_trans (ZB h) (Int.mul_le_mul_of_nonneg_right (by omega) hb)
theorem Wd {xs:List aD} (h:lD aD.sd xs):0≤fR dU xs∧fR dU xs≤1200000000000000000:=by
 refine ⟨ix GH xs,Int.le_trans (Ln (b:=1100000000001) h.1 (by omega) fun s hs=>?_) (by omega)⟩;have h2:=Ln (w:=fa) (b:=1048586) (h.2 s hs).2.1 (by omega) fun f hf=>by
  have h3:=((h.2 s hs).2.2 f hf).2.2.2.2.1.1;unfold fa;rw [Na];omega
 unfold dU;omega
theorem ZC {xs:List aH} (h:lD aH.sd xs):0≤fR fE xs∧fR fE xs≤10000000:=
 ⟨ix ID xs,Int.le_trans (Ln (b:=6) h.1 (by omega) fun s _=>by unfold fE;omega) (by omega)⟩
theorem ZD {xs:List aJ} (h:lD aJ.sd xs):0≤fR gz xs∧fR gz xs≤10000000:=
 ⟨ix IE xs,Int.le_trans (Ln (b:=2) h.1 (by omega) fun s _=>by unfold gz;omega) (by omega)⟩
theorem Nb {xs:List aA} (h:lD aA.sd xs):0≤fR cz xs∧fR cz xs≤10000000000000:=
 ⟨ix yO xs,Int.le_trans (Ln (b:=2097157) h.1 (by omega) fun s hs=>by
  have h1:=(h.2 s hs).2.2.2.1.1;have h2:=(h.2 s hs).2.2.2.2.2.1.1;unfold cz;rw [Na,Na];omega) (by omega)⟩
theorem ae4 (xs:List Int):fR wo xs=xs.length:=by
 induction xs with
 | nil=>rfl
 | cons a r ih=>simp only [fR,ih,wo,List.length_cons];omega
theorem Q_ {xs:List aF} (h:lD aF.sd xs):0≤fR cW xs∧fR cW xs≤10000000000000:=
 ⟨ix Ao xs,Int.le_trans (Ln (b:=1048582) h.1 (by omega) fun s hs=>by
  have h1:=(h.2 s hs).2.2.2.1.1;unfold cW;rw [ae4];omega) (by omega)⟩
theorem Nc {xs:List aB} (h:lD aB.sd xs):0≤fR cP xs∧fR cP xs≤10000000:=
 ⟨ix yP xs,Int.le_trans (Ln (b:=4) h.1 (by omega) fun s _=>by unfold cP;omega) (by omega)⟩
theorem Ra {xs:List aE} (h:lD aE.sd xs):0≤fR c9 xs∧fR c9 xs≤10000000:=
 ⟨ix Ap xs,Int.le_trans (Ln (b:=5) h.1 (by omega) fun s _=>by unfold c9;omega) (by omega)⟩
def ZE (x:aL):Int:=fR dU x.cg+fR fE x.iN+fR gz x.dX
def GA (x:aG):Int:=fR cz x.aO+fR cW x.bI+fR cP x.aK+fR c9 x.aW
theorem Uy {x:aL} (h:x.sd):0≤ZE x∧ZE x≤1300000000000000000:=by
 have h1:=Wd h.1;have h2:=ZC h.2.1;have h3:=ZD h.2.2;unfold ZE;omega
theorem E3 {x:aG} (h:x.sd):0≤GA x∧GA x≤30000000000000:=by
 have h1:=Nb h.2.2.2.1;have h2:=Q_ h.2.2.2.2.1;have h3:=Nc h.2.2.2.2.2.1;have h4:=Ra h.2.2.2.2.2.2;unfold GA;omega
def ae5 (m:Int) (x:aL):List aD×List aH×List aJ:=(Ci dU Hj m x.cg,Ci fE Kh (m+fR dU x.cg) x.iN,Ci gz Kj (m+fR dU x.cg+fR fE x.iN) x.dX)
def sW (m:Int) (x:aG):List aA×List aF×List aB×List aE:=(Ci cz rL m x.aO,Ci cW uF (m+fR cz x.aO) x.bI,Ci cP rM (m+fR cz x.aO+fR cW x.bI) x.aK,Ci c9 uG (m+fR cz x.aO+fR cW x.bI+fR cP x.aK) x.aW)
theorem J2 {k:Nat} {m:Int} {x:aL} (hk:4194304*4≤k) (h:x.sd) (h0:0≤m) (hm:m≤2000000000000000000):
  ic k m x.cg x.iN x.dX=some (m+ZE x,ae5 m x):=by
 have h1:=Wd h.1;have h2:=ZC h.2.1;have h3:=ZD h.2.2;unfold ic ZE ae5;rw [Ds (by omega) h.1 h0 (by omega)];simp only [Option.bind_some];rw [El (by omega) h.2.1 (by omega) (by omega)];simp only [Option.bind_some];rw [Em (by omega) h.2.2 (by omega) (by omega)];simp only [Option.bind_some,ca,fb,nh,Int.add_assoc]
theorem uy {k:Nat} {m n1 n2 n3:Int} {x:aG} (hk:4194304*3≤k) (h:x.sd) (h0:0≤m) (hm:m≤4000000000000000000):
  dz k n1 n2 n3 m x.aO x.bI x.aK x.aW=some (m+GA x,sW m x):=by
 have h1:=Nb h.2.2.2.1;have h2:=Q_ h.2.2.2.2.1;have h3:=Nc h.2.2.2.2.2.1;have h4:=Ra h.2.2.2.2.2.2;unfold dz GA sW;rw [Cj (by omega) h.2.2.2.1 h0 (by omega)];simp only [Option.bind_some];rw [Dt (by omega) h.2.2.2.2.1 (by omega) (by omega)];simp only [Option.bind_some];rw [Ck (by omega) h.2.2.2.2.2.1 (by omega) (by omega)];simp only [Option.bind_some];rw [Du (by omega) h.2.2.2.2.2.2 (by omega) (by omega)];simp only [Option.bind_some,ca,fb,nh,Int.add_assoc]
abbrev BkT:Type:=Int×Int×Int×List aA×List aF×List aB×List aE
abbrev ZF:Type:=Int×Int×Int×Int×List aA×List aF×List aB×List aE
def Hk (b:aG):BkT:=(b.vj,b.dP,b.dN,b.aO,b.bI,b.aK,b.aW)
def LM (b:aG) (c:Int):ZF:=(b.vj,b.dP,b.dN,c,b.aO,b.bI,b.aK,b.aW)
def SX:aG:=⟨0,0,0,[],[],[],[]⟩
theorem Nd {α:Type}:∀ (x s:List α),x.foldl (fun s a=>s++[a]) s=s++x
 | [],s=>by simp
 | a::r,s=>by simp [Nd r]
theorem xI {α R:Type} {x:List α} {B:Nat} {l:Nat→List α→Int→R} {J:List α→R} (he:∀ k s,l (k+1) s (x.length:Int)=J s)
  (h:∀ k i s (hi:i < x.length),B≤k→s.length≤i→l (k+1) s (i:Int)=l k (s++[x[i]]) ((i+1:Nat):Int)) (k:Nat) (hk:B+x.length+1≤k):l k [] 0=J x:=by
 have:=fC (x:=x) (B:=B) (l:=l) (J:=J) (f:=fun s a=>s++[a]) (fun i s=>s.length≤i) (fun k s _=>he k s)
  (fun k i s hi hb hI=>⟨h k i s hi hb hI,by simp;omega⟩) k [] hk (by simp)
 rw [this,Nd];rfl
theorem XI {b:aG} {a1 a2 a3 a4 a5 a6:Int} {p:List aA} {q:List aF} {r:List aB} {s:List aE} {t:List aA} {u:List aB} {v:List aE} {k:Nat} (hk:4194304≤k) (hb:lD aF.sd b.bI)
  (J:aG→Int→Int→Int→Int→Int→Int→List aA→List aF→List aB→List aE→List aA→List aF→List aB→List aE→Option BkT):
  iter (ts:=pD) (R:=BkT) k (ln J) (0:Int) b a1 a2 a3 a4 a5 a6 p q r s t [] u v=J b a1 a2 a3 a4 a5 a6 p q r s t b.bI u v:=by
 have V4:=hb.1;exact xI (x:=b.bI) (B:=0) (l:=fun k z i=>iter (ts:=pD) (R:=BkT) k (ln J) i b a1 a2 a3 a4 a5 a6 p q r s t z u v) (J:=fun z=>J b a1 a2 a3 a4 a5 a6 p q r s t z u v)
  (fun k z=>by simp only [iter,ln,ck,cond_false]<;>rfl)
  (fun k i z hi _ hz=>by
   have hv:=(hb.2 _ (dF hi)).2.2.2.1.1;simp only [iter,ln,Af,cf hi,bM hi,cond_true,bL,bR hi,bQ V4 hi];rw [g9 (by simp only [List.length_nil];omega) (by omega)];simp only [bL,Option.bind_some];rw [g9 (by simp only [List.length_singleton];omega) (by omega)];rfl) k (by omega)
theorem XJ {b:aG} {a1 a2 a3 a4 a5 a6:Int} {p:List aA} {q:List aF} {r:List aB} {s:List aE} {t:List aF} {u:List aB} {v:List aE} {k:Nat} (hk:4194304≤k) (hb:lD aA.sd b.aO)
  (J:aG→Int→Int→Int→Int→Int→Int→List aA→List aF→List aB→List aE→List aA→List aF→List aB→List aE→Option BkT):
  iter (ts:=pE) (R:=BkT) k (lq J) (0:Int) b a1 a2 a3 a4 a5 a6 p q r s [] t u v=J b a1 a2 a3 a4 a5 a6 p q r s b.aO t u v:=by
 have V4:=hb.1;exact xI (x:=b.aO) (B:=0) (l:=fun k z i=>iter (ts:=pE) (R:=BkT) k (lq J) i b a1 a2 a3 a4 a5 a6 p q r s z t u v) (J:=fun z=>J b a1 a2 a3 a4 a5 a6 p q r s z t u v)
  (fun k z=>by simp only [iter,lq,ck,cond_false]<;>rfl)
  (fun k i z hi _ hz=>by
   simp only [iter,lq,cf hi,bM hi,cond_true,bL,bR hi,bQ V4 hi,Kc (L_ (hb.2 _ (dF hi))),Option.bind_some];rw [g9 (by simp only [List.length_singleton];omega) (by omega)];rfl) k (by omega)
theorem Kk {k:Nat} {b:aG} (hk:4194304≤k) (hb:b.sd):mV k b=some (Hk b):=by
 obtain ⟨-,-,-,ho,hg,hl,hp⟩:=hb;have hl1:=hl.1;have hp1:=hp.1;unfold mV;simp only [share];refine (XJ hk ho _).trans ?_;refine (XI hk hg _).trans ?_;show aZ (mv (([]:List aB).length+b.aK.length) 48) (aZ (mv (([]:List aE).length+b.aW.length) 64) _)=_;rw [g9 (by simp only [List.length_nil];omega) (by omega),g9 (by simp only [List.length_nil];omega) (by omega)];rfl
theorem We {n b:Nat} (hn:n≤1048576) (hb:b≤100000):GP (0:Int) (n:Int) b=true:=by
 have h1:(n:Int)*(b:Int)≤1048576*100000:=Int.mul_le_mul (by omega) (by omega) (by omega) (by omega);simp only [GP,Bool.and_eq_true,decide_eq_true_eq];exact ⟨by omega,by omega,by omega,by omega⟩
theorem IF {α:Type} {x:List α} (h:bH (x.length:Int) (0:Int)=true):x=[]:=by
 simp only [bH,beq_iff_eq] at h;exact List.eq_nil_of_length_eq_zero (by omega)
theorem Wf {n:Nat} {α:Type} {y:Option α}:aZ (bH (n:Int) (n:Int)&&bH (n:Int) (n:Int)) y=y:=by rw [iw];rfl
theorem SY {k:Nat} {r:bF} (h:r.b_.length≤1048576):jd k r=some (r.Kind,r.aX,r.cU,r.b_):=by
 unfold jd;cases hv:bH (r.b_.length:Int) (0:Int) with
 | true=>rw [IF hv];rfl
 | false=>
  simp only [cond_false];rw [Wa h (by omega),da (by simp)];rfl
theorem abz {k:Nat} {x:List aA} (hk:4194304≤k) (hx:lD aA.sd x):ef k x=some x:=by
 have hx1:=hx.1;unfold ef;cases hv:bH (x.length:Int) (0:Int) with
 | true=>rw [IF hv];rfl
 | false=>
  simp only [cond_false,share];rw [We hx1 (by omega)];refine (xI (x:=x) (B:=0) (l:=fun k z i=>iter (ts:=im) (R:=List aA) k (dD fun v=>aZ (bH (v.length:Int) (v.length:Int)&&bH (v.length:Int) (v.length:Int)) (some v)) x (x.length:Int) i z) (J:=fun v=>aZ (bH (v.length:Int) (v.length:Int)&&bH (v.length:Int) (v.length:Int)) (some v))
   (fun k z=>by simp only [iter,dD,ck,cond_false]<;>rfl)
   (fun k i z hi _ hz=>by
    simp only [iter,dD,cf hi,bM hi,cond_true,bL,bR hi,bQ hx1 hi,QT (L_ (hx.2 _ (dF hi))),Option.bind_some];rw [g9 (by simp only [List.length_singleton];omega) (by omega)];rfl) k (by omega)).trans Wf
theorem abA {k:Nat} {x:List aF} (hk:4194304≤k) (hx:lD aF.sd x):eL k x=some x:=by
 have hx1:=hx.1;unfold eL;cases hv:bH (x.length:Int) (0:Int) with
 | true=>rw [IF hv];rfl
 | false=>
  simp only [cond_false,share];rw [We hx1 (by omega)];refine (xI (x:=x) (B:=0) (l:=fun k z i=>iter (ts:=iL) (R:=List aF) k (dJ fun v=>aZ (bH (v.length:Int) (v.length:Int)&&bH (v.length:Int) (v.length:Int)) (some v)) x (x.length:Int) i z) (J:=fun v=>aZ (bH (v.length:Int) (v.length:Int)&&bH (v.length:Int) (v.length:Int)) (some v))
   (fun k z=>by simp only [iter,dJ,ck,cond_false]<;>rfl)
   (fun k i z hi _ hz=>by
    simp only [iter,dJ,na,cf hi,bM hi,cond_true,bL,bR hi,bQ hx1 hi,SY (hx.2 _ (dF hi)).2.2.2.1.1,Option.bind_some];rw [g9 (by simp only [List.length_singleton];omega) (by omega)];rfl) k (by omega)).trans Wf
theorem abB {k:Nat} {x:List aB} (hk:4194304≤k) (hx:x.length≤1048576):eg k x=some x:=by
 unfold eg;cases hv:bH (x.length:Int) (0:Int) with
 | true=>rw [IF hv];rfl
 | false=>
  simp only [cond_false,share];rw [We hx (by omega)];refine (xI (x:=x) (B:=0) (l:=fun k z i=>iter (ts:=iq) (R:=List aB) k (dE fun v=>aZ (bH (v.length:Int) (v.length:Int)&&bH (v.length:Int) (v.length:Int)) (some v)) x (x.length:Int) i z) (J:=fun v=>aZ (bH (v.length:Int) (v.length:Int)&&bH (v.length:Int) (v.length:Int)) (some v))
   (fun k z=>by simp only [iter,dE,ck,cond_false]<;>rfl)
   (fun k i z hi _ hz=>by
    simp only [iter,dE,il,cf hi,bM hi,cond_true,bL,bR hi,bQ hx hi,Option.bind_some];rw [g9 (by simp only [List.length_singleton];omega) (by omega)];rfl) k (by omega)).trans Wf
theorem abC {k:Nat} {x:List aE} (hk:4194304≤k) (hx:x.length≤1048576):eM k x=some x:=by
 unfold eM;cases hv:bH (x.length:Int) (0:Int) with
 | true=>rw [IF hv];rfl
 | false=>
  simp only [cond_false,share];rw [We hx (by omega)];refine (xI (x:=x) (B:=0) (l:=fun k z i=>iter (ts:=iM) (R:=List aE) k (dK fun v=>aZ (bH (v.length:Int) (v.length:Int)&&bH (v.length:Int) (v.length:Int)) (some v)) x (x.length:Int) i z) (J:=fun v=>aZ (bH (v.length:Int) (v.length:Int)&&bH (v.length:Int) (v.length:Int)) (some v))
   (fun k z=>by simp only [iter,dK,ck,cond_false]<;>rfl)
   (fun k i z hi _ hz=>by
    simp only [iter,dK,iQ,cf hi,bM hi,cond_true,bL,bR hi,bQ hx hi,Option.bind_some];rw [g9 (by simp only [List.length_singleton];omega) (by omega)];rfl) k (by omega)).trans Wf
theorem En {k:Nat} {b:aG} (hk:4194304≤k) (hb:b.sd):eD k b=some (Hk b):=by
 obtain ⟨-,-,-,ho,hg,hl,hp⟩:=hb;unfold eD;rw [abz hk ho,abA hk hg,abB hk hl.1,abC hk hp.1];rfl
theorem Hd {k:Nat} {m n1 n2 n3:Int} {x:aG} (hk:4194304*3≤k) (h:x.sd) (h0:0≤m) (hm:m≤4000000000000000000):
  cV k (⟨n1,n2,n3,(sW m x).1,(sW m x).2.1,(sW m x).2.2.1,(sW m x).2.2.2⟩:aG) m=some (m+GA x):=by
 have h1:=Nb h.2.2.2.1;have h2:=Q_ h.2.2.2.2.1;have h3:=Nc h.2.2.2.2.2.1;have h4:=Ra h.2.2.2.2.2.2;unfold cV GA sW;simp only;rw [Cl (by omega) h.2.2.2.1 h0 (by omega)];simp only [Option.bind_some];rw [Aq (by omega)];simp only [cond_false];rw [Dv (by omega) h.2.2.2.2.1 (by omega) (by omega)];simp only [Option.bind_some];rw [Aq (by omega)];simp only [cond_false];rw [Cm (by omega) h.2.2.2.2.2.1 (by omega) (by omega)];simp only [Option.bind_some];rw [Aq (by omega)];simp only [cond_false];rw [Dw (by omega) h.2.2.2.2.2.2 (by omega) (by omega)];simp only [Option.bind_some];rw [Aq (by omega)];simp only [cond_false,Int.add_assoc]
theorem Fc {n:Int}:jr .i64 n↔-9223372036854775808≤n∧n≤9223372036854775807:=Iff.rfl
theorem Nf (n:Int):jr .i64 (IntKind.i64.wrap n):=by
 simp only [Fc,IntKind.wrap,IntKind.bits,IntKind.signed,Bool.true_and];split<;>rename_i h<;>simp at h<;>omega
theorem Ng (a b:Int):jr .i64 (aP .i64 a b):=Nf _
theorem Nh (a b:Int):jr .i64 (bO .i64 a b):=Nf _
def Ni (b:aG) (d t r:Nm):Int:=uB (fun p=>seq p.fL d&&(seq p.aX t&&seq p.aN r)) b.aW 0
theorem XK {k:Nat} {b:aG} {d t r:Nm} (hk:4194304≤k) (hb:b.aW.length≤1048576):xq k b d t r=some (Ni b d t r):=by
 unfold xq;simp only [share];exact m8 (x:=b.aW) (p:=fun p=>seq p.fL d&&(seq p.aX t&&seq p.aN r)) (l:=fun k i=>iter (ts:=xX) (R:=Int) k (qg (some (-1))) d t r b i)
  (fun k=>by simp only [iter,qg,ck,cond_false]<;>rfl)
  (fun k i hi=>by
   simp only [iter,qg,share,cf hi,bM hi,cond_true,bL,bR hi,bQ hb hi];cases seq b.aW[i].fL d<;>cases seq b.aW[i].aX t<;>rfl) k (by omega)
theorem abD {k:Nat} {b:aG} {d t r:Nm} (hk:4194304≤k) (hb:b.aW.length≤1048576):km k b d t r=some (Ni b d t r):=by
 unfold km;simp only [share];exact m8 (x:=b.aW) (p:=fun p=>seq p.fL d&&(seq p.aX t&&seq p.aN r)) (l:=fun k i=>iter (ts:=pr) (R:=Int) k (gY (some (-1))) d t r b.aW (b.aW.length:Int) i)
  (fun k=>by simp only [iter,gY,ck,cond_false]<;>rfl)
  (fun k i hi=>by
   simp only [iter,gY,share,cf hi,bM hi,cond_true,bL,bR hi,bQ hb hi];cases seq b.aW[i].fL d<;>cases seq b.aW[i].aX t<;>rfl) k (by omega)
theorem Mc {α:Type} {P:α→Prop} {l:List α} {v:Int} {f:α→α} (h:∀ e,e∈l→P e) (hf:∀ e,e∈l→P (f e)):∀ y,y∈bB l v f→P y:=fun y hy=>by
 unfold bB at hy;obtain ⟨j,hj,rfl⟩:=List.getElem_of_mem hy;rw [List.getElem_modify];rw [List.length_modify] at hj;split
 ·exact hf _ (List.getElem_mem hj)
 ·exact h _ (List.getElem_mem hj)
theorem abE {α β:Type} {l:List α} {v:Int} {f:α→α} {g:α→β} (h:∀ e,g (f e)=g e):(bB l v f).map g=l.map g:=by
 unfold bB;refine List.ext_getElem (by simp) fun i h1 h2=>?_;rw [List.getElem_map,List.getElem_map,List.getElem_modify];split
 ·exact h _
 ·rfl
theorem ve {α:Type} {l:List α} {v:Int} {f:α→α}:(bB l v f).length=l.length:=by simp [bB]
theorem SZ {α β:Type} {p:α→Bool} {q:β→Bool}:∀ {x:List α} {y:List β} {i:Nat},x.map p=y.map q→uB p x i=uB q y i
 | [],[],_,_=>rfl
 | [],_::_,_,h=>by cases h
 | _::_,[],_,h=>by cases h
 | a::r,b::s,i,h=>by
  simp only [List.map_cons,List.cons.injEq] at h;simp only [uB,h.1,SZ h.2]
def GI (ls:List aB) (v n:Int):List aB:=bB ls v (fun e=>⟨e.aX,e.aN,e.bT,aP .i64 (nth (default:aB) ls v).gE n⟩)
def Bh (b:aG) (a:Int):aE:=nth (default:aE) b.aW a
def Bi (b:aG) (a:Int):aG:=⟨b.vj,b.dP,b.dN,b.aO,b.bI,GI b.aK (nL b (Bh b a).aX (Bh b a).aN) (Bh b a).cF,b.aW.eraseIdx a.toNat⟩
abbrev BpT:Type:=Int×Int×Int×List aA×List aF×List aB×List aE×List aE
def XL (b c:aG):BpT:=(b.vj,b.dP,b.dN,b.aO,b.bI,c.aK,b.aW,c.aW)
theorem XM {b:aG} {v n:Int} {t r:Nm} {ps:List aE} {a1 a2 a3:Int} {os:List aA} {gs:List aF}:nL ⟨a1,a2,a3,os,gs,GI b.aK v n,ps⟩ t r=nL b t r:=
 SZ (abE fun _=>rfl)
theorem Rb {b:aG} {t r:Nm} (h:0≤nL b t r):bW (nL b t r) b.aK.length=true:=by
 rcases eJ (fun g:aB=>seq g.aX t&&seq g.aN r) b.aK with ⟨h1,_⟩ | ⟨j,hj,h1,_⟩
 ·unfold nL at h;omega
 ·unfold nL;rw [h1];exact bM hj
theorem ZG {k a:Nat} {x:List aE} (hx:x.length≤1048576) (ha:a < x.length):xy k x (a:Int)=some (x.eraseIdx a):=by
 unfold xy;have h1:O5 0 (a:Int) x.length=true:=by simp [O5];omega
 have h2:BQ x 0 (a:Int)=x.take a:=by simp [BQ]
 have h3:aP .i64 (a:Int) 1=((a+1:Nat):Int):=bQ hx ha;have h4:O5 ((a+1:Nat):Int) (x.length:Int) x.length=true:=by simp [O5];omega
 have h5:BQ x ((a+1:Nat):Int) (x.length:Int)=x.drop (a+1):=by
  unfold BQ;rw [Int.toNat_natCast,Int.toNat_natCast,List.take_length]
 rw [h1,h2,h3,h4,h5,g9 (by simp only [List.length_nil,List.length_take];omega) (by omega),g9 (by simp only [List.nil_append,List.length_take,List.length_drop];omega) (by omega)];rw [List.eraseIdx_eq_take_drop_succ];rfl
theorem P3 {k a:Nat} {b:aG} (hk:4194304≤k) (hp:b.aW.length≤1048576) (hl:b.aK.length≤1048576) (ha:a < b.aW.length) (hv:0≤nL b (Bh b a).aX (Bh b a).aN):
  pQ k b.vj b.dP b.dN (a:Int) b.aO b.bI b.aK b.aW=some (XL b (Bi b a)):=by
 unfold pQ;rw [bM ha];have e:(⟨b.vj,b.dP,b.dN,b.aO,b.bI,b.aK,b.aW⟩:aG)=b:=rfl;have e2:nth (default:aE) b.aW (a:Int)=Bh b a:=rfl;rw [e,e2,Hh hk hl];simp only [Option.bind_some,Rb hv,bL,ZG hp ha];rfl
theorem U3 {k a:Nat} {n1 n2 n3:Int} {os:List aA} {gs:List aF} {ls:List aB} {x:List aE} (hk:4194304≤k) (hx:x.length≤1048576):gR k (a:Int) n1 n2 n3 os gs ls x=some (n1,n2,n3,os,gs,ls,x,x.eraseIdx a):=by
 unfold gR;simp only [share];have h:=QS (R:=Option BpT) (x:=x) (B:=0) (fun i=>(x.take i).eraseIdx a) (l:=fun k s i=>iter (ts:=mw) (R:=BpT) k (fv fun v45 v46 v47 v48 v49 v50 v51 v52=>some (v45,v46,v47,v48,v49,v50,v51,v52)) (a:Int) (x.length:Int) i n1 n2 n3 os gs ls x s)
  (E:=some (n1,n2,n3,os,gs,ls,x,x.eraseIdx a))
  (fun k=>by simp only [iter,fv,ck,cond_false,List.take_length]<;>rfl)
  (fun k i hi _=>by
   have hl:((x.take i).eraseIdx a).length≤1048576:=Nat.le_trans (List.length_eraseIdx_le ..) (by simp;omega);have e:x.take (i+1)=x.take i++[x[i]]:=by rw [List.take_succ_eq_append_getElem hi]
   simp only [iter,fv,share,cf hi,bM hi,cond_true,bL,bR hi,bQ hx hi];rw [g9 (by simp only [List.length_singleton];omega) (by omega),e];by_cases c:i=a
   ·subst c;have:bH (i:Int) (i:Int)=true:=iw _;rw [this,List.eraseIdx_append_of_length_le (by simp;omega)];rw [List.eraseIdx_of_length_le (l:=x.take i) (by simp;omega)];have e3:(List.take i x).length=i:=by simp;omega
    rw [e3,Nat.sub_self];simp only [List.eraseIdx_cons_zero,List.append_nil];rfl
   ·have:bH (i:Int) (a:Int)=false:=by simp [bH];omega
    rw [this];rcases Nat.lt_or_ge a i with h | h
    ·rw [List.eraseIdx_append_of_lt_length (by simp;omega)];rfl
    ·rw [List.eraseIdx_of_length_le (l:=x.take i) (by simp;omega),List.eraseIdx_of_length_le (l:=x.take i++[x[i]]) (by simp;omega)];rfl) k (by omega)
 simp only [List.take_zero,List.eraseIdx_nil] at h;exact h
theorem Lo {k a:Nat} {b:aG} (hk:4194304≤k) (hp:b.aW.length≤1048576) (hl:b.aK.length≤1048576) (ha:a < b.aW.length) (hv:0≤nL b (Bh b a).aX (Bh b a).aN):
  eE k (a:Int) b.vj b.dP b.dN b.aO b.bI b.aK b.aW=some (XL b (Bi b a)):=by
 unfold eE;rw [bM ha];have e:(⟨b.vj,b.dP,b.dN,b.aO,b.bI,b.aK,b.aW⟩:aG)=b:=rfl;have e2:nth (default:aE) b.aW (a:Int)=Bh b a:=rfl;rw [e,e2,M8 hk hl];simp only [Option.bind_some,Rb hv,bL,U3 hk hp,fb];rfl
structure IG (n:Nat) (b:aG):Prop where
 n:n≤b.aW.length
 ok:b.ok
 sd:b.sd
 led:∀ p,p∈b.aW→0≤nL b p.aX p.aN
theorem IG.at {n:Nat} {b:aG} (h:IG (n+1) b):0≤nL b (Bh b n).aX (Bh b n).aN:=h.led _ (Fe h.n)
theorem abF {ls:List aB} {v n:Int} (h:lD aB.sd ls):lD aB.sd (GI ls v n):=⟨by unfold GI;rw [ve];exact h.1,Mc h.2 fun e he=>h.2 e he⟩
theorem abG {ls:List aB} {v n:Int} (h:DJ aB.ok ls):DJ aB.ok (GI ls v n):=⟨by unfold GI;rw [ve];exact h.1,Mc h.2 fun e he=>⟨(h.2 e he).1,(h.2 e he).2.1,(h.2 e he).2.2.1,Ng _ _⟩⟩
theorem mem_erase {α:Type} {l:List α} {i:Nat} {y:α} (h:y∈l.eraseIdx i):y∈l:=(List.eraseIdx_sublist l i).subset h
theorem ZH {p:aE→Prop} {ls:List aE} {i:Nat} (h:lD p ls):lD p (ls.eraseIdx i):=⟨Nat.le_trans (List.length_eraseIdx_le ..) h.1,fun y hy=>h.2 y (mem_erase hy)⟩
theorem ZI {p:aE→Prop} {ls:List aE} {i:Nat} (h:DJ p ls):DJ p (ls.eraseIdx i):=⟨Nat.le_trans (List.length_eraseIdx_le ..) h.1,fun y hy=>h.2 y (mem_erase hy)⟩
theorem Rc {b:aG} {a:Int} (h:b.ok):(Bi b a).ok:=⟨h.1,h.2.1,h.2.2.1,h.2.2.2.1,h.2.2.2.2.1,abG h.2.2.2.2.2.1,ZI h.2.2.2.2.2.2⟩
theorem Re {b:aG} {a:Int} (h:b.sd):(Bi b a).sd:=⟨h.1,h.2.1,h.2.2.1,h.2.2.2.1,h.2.2.2.2.1,abF h.2.2.2.2.2.1,ZH h.2.2.2.2.2.2⟩
theorem IG.back {n:Nat} {b:aG} (h:IG (n+1) b):IG n (Bi b n) where
 n:=by
  have:=h.n;show n≤(b.aW.eraseIdx n).length;rw [List.length_eraseIdx];split<;>omega
 ok:=Rc h.ok
 sd:=Re h.sd
 led:=fun p hp=>by
  have e:nL (Bi b n) p.aX p.aN=nL b p.aX p.aN:=XM;rw [e];exact h.led p (mem_erase hp)
theorem IG.less {n:Nat} {b:aG} (h:IG (n+1) b):IG n b:=⟨by have:=h.n;omega,h.ok,h.sd,h.led⟩
theorem Nj {w:aL} {b:aG} (h:eA w b=true):∀ p,p∈b.aW→0≤nL b p.aX p.aN:=by
 have hc:chain (M9 b) none b.aW=true:=by
  simp only [eA,Hi,Bool.and_eq_true] at h;exact h.2.2.2.2.1
 have e:chain (M9 b) none b.aW=(chain (fun _ a=>UY b a) none b.aW&&chain UX none b.aW):=uz (p:=fun _ a=>UY b a) (q:=UX) b.aW none;rw [e,uA,Bool.and_eq_true] at hc;intro p hp;have:=List.all_eq_true.1 hc.1 p hp;simp only [UY,Bool.and_eq_true,Bool.not_eq_true',bK,decide_eq_false_iff_not] at this;omega
def jT (w:aL) (b:aG) (d t r:Nm):aG×Int:=cond (eA w b) (cond (bK (Ni b d t r) 0) (b,2) (Bi b (Ni b d t r),0)) (SX,1)
theorem Nk:SX.ok:=⟨Fc.2 ⟨by decide,by decide⟩,Fc.2 ⟨by decide,by decide⟩,Fc.2 ⟨by decide,by decide⟩,⟨by decide,fun _ h=>by cases h⟩,⟨by decide,fun _ h=>by cases h⟩,⟨by decide,fun _ h=>by cases h⟩,⟨by decide,fun _ h=>by cases h⟩⟩
theorem Nl:SX.sd:=⟨trivial,trivial,trivial,⟨by decide,fun _ h=>by cases h⟩,⟨by decide,fun _ h=>by cases h⟩,⟨by decide,fun _ h=>by cases h⟩,⟨by decide,fun _ h=>by cases h⟩⟩
theorem Zb {w:aL} {b:aG} {d t r:Nm} (h:b.ok):(jT w b d t r).1.ok:=by
 unfold jT;cases eA w b with
 | false=>exact Nk
 | true=>cases bK (Ni b d t r) 0 with
  | true=>exact h
  | false=>exact Rc h
theorem Za {w:aL} {b:aG} {d t r:Nm} (h:b.sd):(jT w b d t r).1.sd:=by
 unfold jT;cases eA w b with
 | false=>exact Nl
 | true=>cases bK (Ni b d t r) 0 with
  | true=>exact h
  | false=>exact Re h
theorem Wg {b:aG} {d t r:Nm} (h:bK (Ni b d t r) 0=false):∃ j:Nat,j < b.aW.length∧Ni b d t r=(j:Int):=by
 rcases eJ (fun p:aE=>seq p.fL d&&(seq p.aX t&&seq p.aN r)) b.aW with ⟨h1,_⟩ | ⟨j,hj,h1,_⟩
 ·unfold Ni at h;rw [h1] at h;cases h
 ·exact ⟨j,hj,h1⟩
theorem Uz {k:Nat} {w:aL} {b:aG} {d t r:Nm} (hk:4194304*12≤k) (hw:w.sd) (hb:b.sd):mF k w b d t r=some (LM (jT w b d t r).1 (jT w b d t r).2):=by
 have hp:=hb.2.2.2.2.2.2.1;have hl:=hb.2.2.2.2.2.1.1;unfold mF jT;rw [Cg hk hw hb,Kk (by omega) hb,XK (by omega) hp];cases o9:eA w b with
 | false=>rfl
 | true=>
  cases hi:bK (Ni b d t r) 0 with
  | true=>simp only [Option.bind_some,hi];rfl
  | false=>
   obtain ⟨j,hj,e⟩:=Wg hi;have hv:=Nj o9 _ (Fe (d:=(default:aE)) hj);simp only [Option.bind_some,Bool.not_true,cond_false,hi,Hk];rw [e,P3 (by omega) hp hl hj hv];simp only [Option.bind_some,XL,fb,Bi,GI,ve];rfl
theorem UA {k:Nat} {w:aL} {b:aG} {d t r:Nm} (hk:4194304*12≤k) (hw:w.sd) (hb:b.sd):iZ k w b d t r=some (LM (jT w b d t r).1 (jT w b d t r).2):=by
 have hp:=hb.2.2.2.2.2.2.1;have hl:=hb.2.2.2.2.2.1.1;unfold iZ jT;rw [Ch hk hw hb,En (by omega) hb];have e0:(⟨(Hk b).1,(Hk b).2.1,(Hk b).2.2.1,(Hk b).2.2.2.1,(Hk b).2.2.2.2.1,(Hk b).2.2.2.2.2.1,(Hk b).2.2.2.2.2.2⟩:aG)=b:=rfl;simp only [Option.bind_some,e0,abD (show 4194304≤k by omega) hp];cases o9:eA w b with
 | false=>rfl
 | true=>
  cases hi:bK (Ni b d t r) 0 with
  | true=>rfl
  | false=>
   obtain ⟨j,hj,e⟩:=Wg hi;have hv:=Nj o9 _ (Fe (d:=(default:aE)) hj);simp only [Bool.not_true,cond_false,Hk];rw [e,Lo (by omega) hp hl hj hv];simp only [Option.bind_some,XL,fb,Bi,GI,ve];rfl
def py:Nat→aG→aG
 | 0,b=>b
 | n+1,b=>py n (cond (bK (Bh b n).dW b.dP) (Bi b n) b)
theorem S0:∀ {n:Nat} {b:aG},b.ok→(py n b).ok
 | 0,_,h=>h
 | n+1,b,h=>by
  unfold py;refine S0 ?_;cases bK (Bh b n).dW b.dP with
  | true=>exact Rc h
  | false=>exact h
theorem S3:∀ {n:Nat} {b:aG},b.sd→(py n b).sd
 | 0,_,h=>h
 | n+1,b,h=>by
  unfold py;refine S3 ?_;cases bK (Bh b n).dW b.dP with
  | true=>exact Re h
  | false=>exact h
theorem IG.step {n:Nat} {b:aG} (h:IG (n+1) b):IG n (cond (bK (Bh b n).dW b.dP) (Bi b n) b):=by
 cases bK (Bh b n).dW b.dP with
 | true=>exact h.back
 | false=>exact h.less
theorem Rf {n:Nat} (h:n≤1048576):bO .i64 (n:Int) (1:Int)=(n:Int)-1:=So (by omega) (by omega)
theorem Nn {z:aG} (J:aG→Int→Int→Int→List aA→List aF→List aB→List aE→Option ZF):∀ (n k:Nat) (b:aG) (i:Int),i=(n:Int)-1→IG n b→4194304+n+1≤k→
  iter (ts:=tA) (R:=ZF) k (qN J) i z b.vj b.dP b.dN b.aO b.bI b.aK b.aW=J z (py n b).vj (py n b).dP (py n b).dN (py n b).aO (py n b).bI (py n b).aK (py n b).aW
 | 0,k,b,i,hi,h,hk=>by
  obtain ⟨k,rfl⟩:∃ j,k=j+1:=⟨k-1,by omega⟩;obtain rfl:i=-1:=hi;rfl
 | n+1,k,b,i,hi,h,hk=>by
  obtain rfl:i=(n:Int):=by omega
  obtain ⟨k,rfl⟩:∃ j,k=j+1:=⟨k-1,by omega⟩;have hp:=h.sd.2.2.2.2.2.2.1;have hl:=h.sd.2.2.2.2.2.1.1;have hn:n < b.aW.length:=h.n;have e2:b8 (0:Int) (n:Int)=true:=C3 (by omega);have e3:bO .i64 (n:Int) (1:Int)=(n:Int)-1:=Rf (by omega);have ih:=Nn J (z:=z) n k _ _ rfl h.step (by omega);have e4:nth (default:aE) b.aW (n:Int)=Bh b n:=rfl;unfold py;rw [← ih];simp only [iter,qN,e2,cond_true,share,bM hn,bL,e4];cases bK (Bh b n).dW b.dP with
  | true=>
   simp only [cond_true,P3 (show 4194304≤k by omega) hp hl hn h.at,Option.bind_some,XL,fb,bL,e3,GI,ve,Bi];rfl
  | false=>
   simp only [cond_false,e3];rfl
theorem No {z:aG} (J:aG→Int→Int→Int→List aA→List aF→List aB→List aE→Option ZF):∀ (n k:Nat) (b:aG) (i:Int),i=(n:Int)-1→IG n b→4194304+n+1≤k→
  iter (ts:=tB) (R:=ZF) k (qO J) i z b.vj b.dP b.dN b.aO b.bI b.aK b.aW=J z (py n b).vj (py n b).dP (py n b).dN (py n b).aO (py n b).bI (py n b).aK (py n b).aW
 | 0,k,b,i,hi,h,hk=>by
  obtain ⟨k,rfl⟩:∃ j,k=j+1:=⟨k-1,by omega⟩;obtain rfl:i=-1:=hi;rfl
 | n+1,k,b,i,hi,h,hk=>by
  obtain rfl:i=(n:Int):=by omega
  obtain ⟨k,rfl⟩:∃ j,k=j+1:=⟨k-1,by omega⟩;have hp:=h.sd.2.2.2.2.2.2.1;have hl:=h.sd.2.2.2.2.2.1.1;have hn:n < b.aW.length:=h.n;have e2:b8 (0:Int) (n:Int)=true:=C3 (by omega);have e3:bO .i64 (n:Int) (1:Int)=(n:Int)-1:=Rf (by omega);have ih:=No J (z:=z) n k _ _ rfl h.step (by omega);have e4:nth (default:aE) b.aW (n:Int)=Bh b n:=rfl;unfold py;rw [← ih];simp only [iter,qO,e2,cond_true,share,bM hn,bL,e4];cases bK (Bh b n).dW b.dP with
  | true=>
   simp only [cond_true,Lo (show 4194304≤k by omega) hp hl hn h.at,Option.bind_some,XL,fb,bL,e3,GI,ve,Bi];rfl
  | false=>
   simp only [cond_false,e3];rfl
def P4 (b:aG):aG:=⟨b.vj,aP .i64 b.dP 1,b.dN,b.aO,b.bI,b.aK,b.aW⟩
def jU (w:aL) (b:aG):aG×Int:=cond (eA w b) (cond (bH b.dP 1000000) (b,2) (py b.aW.length (P4 b),0)) (SX,1)
theorem S4 {b:aG} (h:b.ok):(P4 b).ok:=⟨h.1,Ng _ _,h.2.2⟩
theorem S5 {b:aG} (h:b.sd):(P4 b).sd:=h
theorem Ze {w:aL} {b:aG} (h:b.ok):(jU w b).1.ok:=by
 unfold jU;cases eA w b with
 | false=>exact Nk
 | true=>cases bH b.dP 1000000 with
  | true=>exact h
  | false=>exact S0 (S4 h)
theorem Zd {w:aL} {b:aG} (h:b.sd):(jU w b).1.sd:=by
 unfold jU;cases eA w b with
 | false=>exact Nl
 | true=>cases bH b.dP 1000000 with
  | true=>exact h
  | false=>exact S3 (S5 h)
theorem XN {w:aL} {b:aG} (h:eA w b=true):b8 1000000 b.dP=bH b.dP 1000000:=by
 simp only [eA,Bool.and_eq_true] at h;have h1:=oq h.1.2.2.1.2;simp only [b8,bH];rw [Bool.eq_iff_iff,decide_eq_true_eq,beq_iff_eq];omega
theorem S6 {w:aL} {b:aG} (h:eA w b=true) (ho:b.ok) (hs:b.sd):IG b.aW.length (P4 b):=⟨Nat.le_refl _,S4 ho,S5 hs,fun p hp=>(Nj h p hp:0≤nL b p.aX p.aN)⟩
theorem UB {k:Nat} {w:aL} {b:aG} (ho:b.ok) (hk:4194304*12≤k) (hw:w.sd) (hb:b.sd):mD k w b=some (LM (jU w b).1 (jU w b).2):=by
 have hp:=hb.2.2.2.2.2.2.1;unfold mD jU;rw [Cg hk hw hb,Kk (by omega) hb];cases o9:eA w b with
 | false=>rfl
 | true=>
  simp only [Option.bind_some,Bool.not_true,cond_false,XN o9,share,Hk];cases bH b.dP 1000000 with
  | true=>rfl
  | false=>
   simp only [cond_false];rw [Rf hp];exact Nn _ b.aW.length k (P4 b) _ rfl (S6 o9 ho hb) (by omega)
theorem UC {k:Nat} {w:aL} {b:aG} (ho:b.ok) (hk:4194304*12≤k) (hw:w.sd) (hb:b.sd):iX k w b=some (LM (jU w b).1 (jU w b).2):=by
 have hp:=hb.2.2.2.2.2.2.1;unfold iX jU;rw [Ch hk hw hb,En (by omega) hb];cases o9:eA w b with
 | false=>rfl
 | true=>
  simp only [Option.bind_some,Bool.not_true,cond_false,share,Hk];cases bH b.dP 1000000 with
  | true=>rfl
  | false=>
   simp only [cond_false];rw [Rf hp];exact No _ b.aW.length k (P4 b) _ rfl (S6 o9 ho hb) (by omega)
theorem Rg:∀ a b:List UInt8,(!(slt a b||seq a b))=slt b a
 | [],[]=>rfl
 | [],_::_=>rfl
 | _::_,[]=>rfl
 | a::r,b::s=>by
  have ih:=Rg r s;simp only [slt,Op.bytesLess,seq] at *;rcases Nat.lt_trichotomy a.toNat b.toNat with h | h | h
  ·have h1:a < b:=h;have h2:¬ b < a:=fun h3=>by have h4:b.toNat < a.toNat:=h3;omega
   have h3:¬ b=a:=fun h3=>by subst h3;omega
   simp [h1,h2,h3]
  ·obtain rfl:a=b:=UInt8.toNat_inj.1 h;have h1:¬ a < a:=fun h3=>by have h4:a.toNat < a.toNat:=h3;omega
   simp only [h1,decide_false,Bool.false_or,beq_self_eq_true,Bool.true_and];rw [← ih];simp
  ·have h1:b < a:=h;have h2:¬ a < b:=fun h3=>by have h4:a.toNat < b.toNat:=h3;omega
   have h3:¬ a=b:=fun h3=>by subst h3;omega
   simp [h1,h2,h3]
theorem abH (a b c d:Nm):bK 0 (XD a b c d)=nJ c d a b:=by
 unfold XD nJ Q1;rw [← Rg a c,← Rg b d,Ee c a];cases h1:slt a c<;>cases h2:seq a c<;>cases h3:slt b d<;>cases h4:seq b d<;>first | rfl | (have:=Ma h2;rw [h1] at this;cases this)
def Eo (x:aB) (q:Bool×List aB) (y:aB):Bool×List aB:=cond (!q.1&&nJ x.aX x.aN y.aX y.aN) (true,(q.2++[x])++[y]) (q.1,q.2++[y])
def FX (x:aB) (ls:List aB):Bool×List aB:=ls.foldl (Eo x) (false,[])
def Rh (x:aB) (ls:List aB):List aB:=cond (!(FX x ls).1) ((FX x ls).2++[x]) (FX x ls).2
theorem S7 (x:aB) (q:Bool×List aB) (y:aB):(Eo x q y).2.length≤q.2.length+2:=by
 unfold Eo;cases !q.1&&nJ x.aX x.aN y.aX y.aN<;>simp
theorem Ep {P:aB→Prop} {x:aB} (hx:P x):∀ (ls:List aB) (q:Bool×List aB),(∀ y,y∈ls→P y)→(∀ y,y∈q.2→P y)→(∀ y,y∈(ls.foldl (Eo x) q).2→P y)∧(ls.foldl (Eo x) q).2.length≤q.2.length+ls.length+cond q.1 0 1∧(q.1=true→(ls.foldl (Eo x) q).1=true)∧((ls.foldl (Eo x) q).1=false→(ls.foldl (Eo x) q).2.length=q.2.length+ls.length)
 | [],q,_,hq=>⟨hq,by simp,id,fun _=>by simp⟩
 | a::r,q,hl,hq=>by
  have ha:=hl a (by simp);have hr:=fun y hy=>hl y (List.mem_cons_of_mem _ hy);simp only [List.foldl_cons];obtain ⟨d,o⟩:=q;cases d with
  | true=>
   obtain ⟨k1,k2,k3,k4⟩:=Ep hx r (true,o++[a]) hr (fun y hy=>by simp only [List.mem_append,List.mem_singleton] at hy;rcases hy with h | rfl;exact hq y h;exact ha);rw [show Eo x (true,o) a=(true,o++[a]) from rfl];refine ⟨k1,?_,fun _=>k3 rfl,fun h=>by rw [k3 rfl] at h;cases h⟩;simp only [List.length_append,List.length_singleton,cond_true] at k2;simp only [List.length_cons,cond_true];omega
  | false=>
   cases ht:nJ x.aX x.aN a.aX a.aN with
   | true=>
    obtain ⟨k1,k2,k3,k4⟩:=Ep hx r (true,(o++[x])++[a]) hr (fun y hy=>by
     simp only [List.mem_append,List.mem_singleton] at hy;rcases hy with (h | rfl) | rfl
     ·exact hq y h
     ·exact hx
     ·exact ha)
    rw [show Eo x (false,o) a=(true,(o++[x])++[a]) by unfold Eo;simp only [ht];rfl];refine ⟨k1,?_,(fun h=>by cases h),fun h=>by rw [k3 rfl] at h;cases h⟩;simp only [List.length_append,List.length_singleton,cond_true] at k2;simp only [List.length_cons,cond_false];omega
   | false=>
    obtain ⟨k1,k2,k3,k4⟩:=Ep hx r (false,o++[a]) hr (fun y hy=>by simp only [List.mem_append,List.mem_singleton] at hy;rcases hy with h | rfl;exact hq y h;exact ha);rw [show Eo x (false,o) a=(false,o++[a]) by unfold Eo;simp only [ht];rfl];simp only [List.length_append,List.length_singleton,cond_false] at k2 k4;refine ⟨k1,?_,(fun h=>by cases h),fun h=>?_⟩
    ·simp only [List.length_cons,cond_false];omega
    ·have:=k4 h;simp only [List.length_cons];omega
theorem S8 {P:aB→Prop} {x:aB} {ls:List aB} (hx:P x) (hl:∀ y,y∈ls→P y):(∀ y,y∈Rh x ls→P y)∧(Rh x ls).length≤ls.length+1:=by
 obtain ⟨k1,k2,k3,k4⟩:=Ep hx ls (false,[]) hl (fun y hy=>by cases hy);unfold Rh;change (∀ y,y∈(FX x ls).2→P y) at k1;change (FX x ls).2.length≤_ at k2;change (FX x ls).1=false→(FX x ls).2.length=_ at k4;cases h:(FX x ls).1 with
 | true=>
  simp only [Bool.not_true,cond_false];exact ⟨k1,by simpa [Nat.add_comm] using k2⟩
 | false=>
  have k5:=k4 h;simp only [Bool.not_false,cond_true];refine ⟨fun y hy=>?_,by simp only [List.length_append,List.length_singleton,k5,List.length_nil];omega⟩;simp only [List.mem_append,List.mem_singleton] at hy;rcases hy with hy | rfl
  ·exact k1 y hy
  ·exact hx
theorem XO {k:Nat} {z:aG} {a1 a2 a3 n f:Int} {t r:Nm} {os:List aA} {gs:List aF} {ls:List aB} {ps:List aE} (hk:4194304≤k) (hl:ls.length≤1048576)
  (J:Bool→aG→Int→Int→Int→aB→List aB→List aA→List aF→List aB→List aE→Option ZF):
  iter (ts:=kV) (R:=ZF) k (fV J) t r false (0:Int) z a1 a2 a3 ⟨t,r,n,f⟩ [] os gs ls ps=J (FX ⟨t,r,n,f⟩ ls).1 z a1 a2 a3 ⟨t,r,n,f⟩ (FX ⟨t,r,n,f⟩ ls).2 os gs ls ps:=by
 exact fC (S:=Bool×List aB) (x:=ls) (B:=0) (f:=Eo ⟨t,r,n,f⟩) (l:=fun k s i=>iter (ts:=kV) (R:=ZF) k (fV J) t r s.1 i z a1 a2 a3 ⟨t,r,n,f⟩ s.2 os gs ls ps)
  (J:=fun s=>J s.1 z a1 a2 a3 ⟨t,r,n,f⟩ s.2 os gs ls ps) (fun i s=>s.2.length≤2*i)
  (fun k s _=>by simp only [iter,fV,ck,cond_false]<;>rfl)
  (fun k i s hi _ hI=>⟨by
   obtain ⟨d,o⟩:=s;simp only at hI;simp only [iter,fV,share,cf hi,bM hi,cond_true,bL,bR hi,bQ hl hi,Mb,Option.bind_some,abH];have a1:∀ y:List aB,y.length≤4000000→∀ z:aB,mv (y.length+([z]:List aB).length) 48=true:=fun y hy z=>g9 (by simp only [List.length_singleton];omega) (by omega);have a2:=a1 o (by omega) ls[i];have a4:=a1 o (by omega) ⟨t,r,n,f⟩;have a3:=a1 (o++[⟨t,r,n,f⟩]) (by simp;omega) ls[i];unfold Eo;rw [a2,a3,a4];cases d with
   | true=>rfl
   | false=>cases nJ t r ls[i].aX ls[i].aN<;>rfl,by have:=S7 ⟨t,r,n,f⟩ s ls[i];omega⟩) k (false,[]) (by omega) (by simp)
theorem XP {k:Nat} {z:aG} {a1 a2 a3 n f:Int} {t r:Nm} {os:List aA} {gs:List aF} {ls:List aB} {ps:List aE} (hk:4194304≤k) (hl:ls.length≤1048576)
  (J:Bool→aG→Int→Int→Int→aB→List aB→List aA→List aF→List aB→List aE→Option ZF):
  iter (ts:=kX) (R:=ZF) k (fW J) false (ls.length:Int) (0:Int) z a1 a2 a3 ⟨t,r,n,f⟩ [] ls os gs ps=J (FX ⟨t,r,n,f⟩ ls).1 z a1 a2 a3 ⟨t,r,n,f⟩ (FX ⟨t,r,n,f⟩ ls).2 os gs ls ps:=by
 exact fC (S:=Bool×List aB) (x:=ls) (B:=0) (f:=Eo ⟨t,r,n,f⟩) (l:=fun k s i=>iter (ts:=kX) (R:=ZF) k (fW J) s.1 (ls.length:Int) i z a1 a2 a3 ⟨t,r,n,f⟩ s.2 ls os gs ps)
  (J:=fun s=>J s.1 z a1 a2 a3 ⟨t,r,n,f⟩ s.2 os gs ls ps) (fun i s=>s.2.length≤2*i)
  (fun k s _=>by simp only [iter,fW,ck,cond_false]<;>rfl)
  (fun k i s hi _ hI=>⟨by
   obtain ⟨d,o⟩:=s;simp only at hI;simp only [iter,fW,share,cf hi,bM hi,cond_true,bL,bR hi,bQ hl hi];have a1:∀ y:List aB,y.length≤4000000→∀ z:aB,mv (y.length+([z]:List aB).length) 48=true:=fun y hy z=>g9 (by simp only [List.length_singleton];omega) (by omega);have a2:=a1 o (by omega) ls[i];have a4:=a1 o (by omega) ⟨t,r,n,f⟩;have a3:=a1 (o++[⟨t,r,n,f⟩]) (by simp;omega) ls[i];unfold Eo nJ;rw [a2,a3,a4];cases d with
   | true=>rfl
   | false=>cases slt t ls[i].aX<;>cases seq t ls[i].aX<;>cases slt r ls[i].aN<;>rfl,by have:=S7 ⟨t,r,n,f⟩ s ls[i];omega⟩) k (false,[]) (by omega) (by simp)
theorem mod_mod {α:Type} {l:List α} {v:Int} {f g:α→α}:bB (bB l v f) v g=bB l v (fun e=>g (f e)):=by
 unfold bB;refine List.ext_getElem (by simp) fun i h1 h2=>?_;simp only [List.getElem_modify];split<;>rfl
def zg (ls:List aB) (v n f:Int):List aB:=bB ls v (fun e=>⟨e.aX,e.aN,n,f⟩)
def Wh (b:aG) (ls:List aB):aG:=⟨b.vj,b.dP,b.dN,b.aO,b.bI,ls,b.aW⟩
def Np (b:aG) (v n:Int):Int:=bO .i64 (aP .i64 (nth (default:aB) b.aK v).gE n) (nth (default:aB) b.aK v).bT
def abI (w:aL) (t r:Nm) (n:Int):Bool:=(hP w.dX t).isSome&&(cB r&&(b8 0 n&&b8 n 1000000))
def Nq (w:aL) (b:aG) (t r:Nm) (n:Int):aG×Int:=
 cond (!abI w t r n) (b,2) (cond (b8 0 (nL b t r)) (cond (bK (Np b (nL b t r) n) 0) (b,3) (Wh b (zg b.aK (nL b t r) n (Np b (nL b t r) n)),0))
  (cond (bK (bO .i64 n (rK w b t r)) 0) (b,3) (cond (bH (b.aK.length:Int) 10) (b,4) (Wh b (Rh ⟨t,r,n,bO .i64 n (rK w b t r)⟩ b.aK),0))))
def fq (w:aL) (b:aG) (t r:Nm) (n:Int):aG×Int:=cond (eA w b) (Nq w b t r n) (SX,1)
theorem Nr {P:aG→Prop} {w:aL} {b:aG} {t r:Nm} {n:Int} (h0:P b) (h1:∀ v f,jr .i64 f→P (Wh b (zg b.aK v n f))) (h2:∀ f,jr .i64 f→P (Wh b (Rh ⟨t,r,n,f⟩ b.aK))):P (Nq w b t r n).1:=by
 unfold Nq;cases !abI w t r n with
 | true=>exact h0
 | false=>
  cases b8 0 (nL b t r) with
  | true=>cases bK (Np b (nL b t r) n) 0 with
   | true=>exact h0
   | false=>exact h1 _ _ (Nh _ _)
  | false=>cases bK (bO .i64 n (rK w b t r)) 0 with
   | true=>exact h0
   | false=>cases bH (b.aK.length:Int) 10 with
    | true=>exact h0
    | false=>exact h2 _ (Nh _ _)
theorem s6 {w:aL} {b:aG} (h:eA w b=true):b.aK.length≤10:=by
 simp only [eA,Hi,Bool.and_eq_true] at h;have:=oq h.2.2.2.1.1;omega
theorem Xo {w:aL} {b:aG} {t r:Nm} {n:Int} (ht:dA t) (hr:dA r) (hn:jr .i64 n) (h:b.ok):(fq w b t r n).1.ok:=by
 unfold fq;cases o9:eA w b with
 | false=>exact Nk
 | true=>
  obtain ⟨a1,a2,a3,a4,a5,a6,a7⟩:=h;refine Nr (P:=aG.ok) ⟨a1,a2,a3,a4,a5,a6,a7⟩ (fun v f hf=>⟨a1,a2,a3,a4,a5,⟨by show (bB b.aK v _).length≤_;rw [ve];exact a6.1,Mc a6.2 fun e he=>⟨(a6.2 e he).1,(a6.2 e he).2.1,hn,hf⟩⟩,a7⟩) (fun f hf=>?_);obtain ⟨k1,k2⟩:=S8 (P:=aB.ok) (x:=⟨t,r,n,f⟩) (ls:=b.aK) ⟨ht,hr,hn,hf⟩ a6.2;exact ⟨a1,a2,a3,a4,a5,⟨by have:=s6 o9;have:=max_eq;show (Rh _ b.aK).length≤maxLen;omega,k1⟩,a7⟩
theorem Xn {w:aL} {b:aG} {t r:Nm} {n:Int} (ht:dt t) (hr:dt r) (h:b.sd):(fq w b t r n).1.sd:=by
 unfold fq;cases o9:eA w b with
 | false=>exact Nl
 | true=>
  obtain ⟨a1,a2,a3,a4,a5,a6,a7⟩:=h;refine Nr (P:=aG.sd) ⟨a1,a2,a3,a4,a5,a6,a7⟩ (fun v f hf=>⟨a1,a2,a3,a4,a5,⟨by show (bB b.aK v _).length≤_;rw [ve];exact a6.1,Mc a6.2 fun e he=>⟨(a6.2 e he).1,(a6.2 e he).2.1,trivial,trivial⟩⟩,a7⟩) (fun f hf=>?_);obtain ⟨k1,k2⟩:=S8 (P:=aB.sd) (x:=⟨t,r,n,f⟩) (ls:=b.aK) ⟨ht,hr,trivial,trivial⟩ a6.2;exact ⟨a1,a2,a3,a4,a5,⟨by have:=s6 o9;show (Rh _ b.aK).length≤1048576;omega,k1⟩,a7⟩
theorem ZJ {x:aB} {ls:List aB} (h:ls.length≤10):mv ((FX x ls).2.length+([x]:List aB).length) 48=true:=by
 obtain ⟨_,k2,_,_⟩:=Ep (P:=fun _=>True) (x:=x) trivial ls (false,[]) (fun _ _=>trivial) (fun _ _=>trivial);change (FX x ls).2.length≤_ at k2;simp only [List.length_nil,cond_false] at k2;exact g9 (by simp only [List.length_singleton];omega) (by omega)
theorem XQ {w:aL} {b:aG} (h:eA w b=true):b8 (10:Int) (b.aK.length:Int)=bH (b.aK.length:Int) 10:=by
 have:=s6 h;simp only [b8,bH];rw [Bool.eq_iff_iff,decide_eq_true_eq,beq_iff_eq];omega
theorem S9 {b:aG} {t r:Nm} (h:b8 0 (nL b t r)=true):bW (nL b t r) b.aK.length=true:=Rb (oq h)
theorem Sm {k:Nat} {w:aL} {b:aG} {t r:Nm} {n:Int} (hr:dt r) (hk:4194304*12≤k) (hw:w.sd) (hb:b.sd):kW k w b t r n=some (LM (fq w b t r n).1 (fq w b t r n).2):=by
 have hl:=hb.2.2.2.2.2.1.1;have ht:=hw.2.2.1;unfold kW fq;rw [Cg hk hw hb,Kk (by omega) hb];cases o9:eA w b with
 | false=>rfl
 | true=>
  have h10:=s6 o9;simp only [Option.bind_some,Bool.not_true,cond_false,share,Iw (show 4194304≤k by omega) ht,ez (show 4194304≤k by omega) hr,LN,Hh (show 4194304≤k by omega) hl,XQ o9,
   M6 (show 4194304*3≤k by omega) hw hb (Fb (by simp only [eA,Bool.and_eq_true] at o9;exact o9.2.1)),Hk,bL,ve,mod_mod]
  unfold Nq abI;cases (hP w.dX t).isSome with
  | false=>rfl
  | true=>
   cases cB r with
   | false=>rfl
   | true=>
    cases b8 0 n&&b8 n 1000000 with
    | false=>rfl
    | true=>
     simp only [Bool.not_true,Bool.and_self,cond_false,cond_true];cases hv:b8 0 (nL b t r) with
     | true=>
      simp only [cond_true,S9 hv,bL];change cond (bK (Np b (nL b t r) n) 0) _ _=_;cases bK (Np b (nL b t r) n) 0<;>rfl
     | false=>
      simp only [cond_false];cases bK (bO .i64 n (rK w b t r)) 0 with
      | true=>rfl
      | false=>
       cases bH (b.aK.length:Int) 10 with
       | true=>rfl
       | false=>
        simp only [cond_false];refine (XO (show 4194304≤k by omega) hl _).trans ?_;rw [ZJ h10];unfold Rh;cases (FX ⟨t,r,n,bO .i64 n (rK w b t r)⟩ b.aK).1<;>rfl
theorem Sn {k:Nat} {w:aL} {b:aG} {t r:Nm} {n:Int} (hr:dt r) (hk:4194304*12≤k) (hw:w.sd) (hb:b.sd):ie k w b t r n=some (LM (fq w b t r n).1 (fq w b t r n).2):=by
 have hl:=hb.2.2.2.2.2.1.1;have ht:=hw.2.2.1;unfold ie fq;rw [Ch hk hw hb,En (by omega) hb];have e0:(⟨b.vj,b.dP,b.dN,b.aO,b.bI,b.aK,b.aW⟩:aG)=b:=rfl;cases o9:eA w b with
 | false=>rfl
 | true=>
  have h10:=s6 o9;simp only [Option.bind_some,Bool.not_true,cond_false,share,yI (show 4194304≤k by omega) ht,Ke,fZ (show 4194304≤k by omega) hr,Hk,e0,M8 (show 4194304≤k by omega) hl,
   M7 (show 4194304*3≤k by omega) hw hb (Fb (by simp only [eA,Bool.and_eq_true] at o9;exact o9.2.1)),bL,ve,mod_mod]
  unfold Nq abI;cases (hP w.dX t).isSome with
  | false=>rfl
  | true=>
   cases cB r with
   | false=>rfl
   | true=>
    rw [cL n 0,cL 1000000 n];cases b8 0 n with
    | false=>rfl
    | true=>
     cases b8 n 1000000 with
     | false=>rfl
     | true=>
      simp only [Bool.not_true,Bool.and_self,cond_false,cond_true];cases hv:b8 0 (nL b t r) with
      | true=>
       simp only [cond_true,S9 hv,bL];change cond (bK (Np b (nL b t r) n) 0) _ _=_;cases bK (Np b (nL b t r) n) 0<;>rfl
      | false=>
       simp only [cond_false];cases bK (bO .i64 n (rK w b t r)) 0 with
       | true=>rfl
       | false=>
        cases bH (b.aK.length:Int) 10 with
        | true=>rfl
        | false=>
         simp only [cond_false];refine (XP (show 4194304≤k by omega) hl _).trans ?_;rw [ZJ h10];unfold Rh;cases (FX ⟨t,r,n,bO .i64 n (rK w b t r)⟩ b.aK).1<;>rfl
end Go.Proofs.YtjkbbdldmdajkaaGreatDoor.Pu
