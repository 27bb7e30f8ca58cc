/- Plain words and laws. No condition. -/
import Derived.Test.YtljfmaaadnoggaaGreatDoorMw2
set_option linter.unusedSimpArgs false
set_option linter.unusedVariables false
namespace Go.Proofs.YtljfmaaadnoggaaGreatDoor.Pu
open Go Go.RowKit Go.Proofs.YtljfmaaadnoggaaGreatDoor.cX Go.Proofs.YtljfmaaadnoggaaGreatDoor.Fn
def abN (q:Option aK) (g:aK):Bool:=match q with
 | none=>true
 | some p=>!ck g.Number p.Number
def Dc (b:aE) (q:Option aK) (g:aK):Bool:=(ck 1 g.Number&&ck g.Number b.lh)&&(abN q g&&(cH g.To&&(C8 g.By&&Bq g.cP)))
def zN (b:aE):Bool:=ck (b.bZ.length:Int) 24&&chain (Dc b) none b.bZ
theorem Tp {k:Nat} {b:aE} (hk:4194304*3≤k) (hb:b.sd):qj k b=some (zN b):=by
 obtain ⟨-,-,-,-,hg,-⟩:=hb
 unfold qj zN
 have h:=fq (R:=Option Bool) (x:=b.bZ) (p:=Dc b) (B:=4194304*2) (l:=fun k i=>iter (ts:=tZ) (R:=Bool) k (lR (some true)) b i) (E:=some true) (O:=some false)
  (fun k=>by simp only [iter,lR,cf,cond_false]<;>rfl)
  (fun k i hi cu=>by
   obtain ⟨-,g1,g2,g3⟩:=hg.2 _ (dG hi)
   simp only [iter,lR,share,b6 hi,bF hi,cond_true,bK,bR hi,OZ,eL (show 4194304≤k by omega) g1,eL (show 4194304≤k by omega) g2,S6 (show 4194304*2≤k by omega) g3,Option.bind_some,bH hg.1 hi,Dc,C8]
   rcases Nat.eq_zero_or_pos i with rfl | h0
   ·simp only [sZ,l9,abN]
    cases ck 1 b.bZ[0].Number&&ck b.bZ[0].Number b.lh<;>cases cH b.bZ[0].To<;>cases seq b.bZ[0].By []<;>cases cH b.bZ[0].By<;>cases Bq b.bZ[0].cP<;>rfl
   ·have c9:i-1 < b.bZ.length:=by omega
    simp only [A1 h0,qP h0 (show i≤1048576 by have:=hg.1;omega),bF c9,cond_true,bK,bR c9,l_ h0 hi,abN]
    cases ck 1 b.bZ[i].Number&&ck b.bZ[i].Number b.lh<;>cases ck b.bZ[i].Number b.bZ[i-1].Number<;>cases cH b.bZ[i].To<;>cases seq b.bZ[i].By []<;>cases cH b.bZ[i].By<;>cases Bq b.bZ[i].cP<;>rfl) k (by have:=hg.1;omega)
 simp only [share,cO]
 cases ck (b.bZ.length:Int) 24 with
 | false=>rfl
 | true=>exact h.trans (by cases chain (Dc b) none b.bZ<;>rfl)
theorem Tq {k:Nat} {b:aE} (hk:4194304*3≤k) (hb:b.sd):gJ k b=some (zN b):=by
 obtain ⟨-,-,-,-,hg,-⟩:=hb
 unfold gJ zN
 have h:=fq (R:=Option Bool) (x:=b.bZ) (p:=Dc b) (B:=4194304*2) (l:=fun k i=>iter (ts:=me) (R:=Bool) k (fb (some true)) b b.bZ (b.bZ.length:Int) i) (E:=some true) (O:=some false)
  (fun k=>by simp only [iter,fb,cf,cond_false]<;>rfl)
  (fun k i hi cu=>by
   obtain ⟨-,g1,g2,g3⟩:=hg.2 _ (dG hi)
   simp only [iter,fb,share,b6 hi,bF hi,cond_true,bK,bR hi,gG (show 4194304≤k by omega) g1,gG (show 4194304≤k by omega) g2,S7 (show 4194304*2≤k by omega) g3,Option.bind_some,bH hg.1 hi,Dc,C8]
   rw [cO b.bZ[i].Number,cO b.lh]
   rcases Nat.eq_zero_or_pos i with rfl | h0
   ·simp only [sZ,l9,abN]
    cases ck 1 b.bZ[0].Number<;>cases ck b.bZ[0].Number b.lh<;>cases cH b.bZ[0].To<;>cases seq b.bZ[0].By []<;>cases cH b.bZ[0].By<;>cases Bq b.bZ[0].cP<;>rfl
   ·have c9:i-1 < b.bZ.length:=by omega
    simp only [A1 h0,qP h0 (show i≤1048576 by have:=hg.1;omega),bF c9,cond_true,bK,bR c9,l_ h0 hi,abN]
    cases ck 1 b.bZ[i].Number<;>cases ck b.bZ[i].Number b.lh<;>cases ck b.bZ[i].Number b.bZ[i-1].Number<;>cases cH b.bZ[i].To<;>cases seq b.bZ[i].By []<;>cases cH b.bZ[i].By<;>cases Bq b.bZ[i].cP<;>rfl) k (by have:=hg.1;omega)
 simp only [share,cO]
 cases ck (b.bZ.length:Int) 24 with
 | false=>rfl
 | true=>exact h.trans (by cases chain (Dc b) none b.bZ<;>rfl)
def FM (res:Nm) (q:aB×Nm):Int:=cond (bL q.1.Kind 1&&seq q.1.bA res) ((num q.2).getD 0) 0
theorem Dd (res:Nm) (q:aB×Nm):0≤FM res q∧FM res q < 10000000:=by
 unfold FM
 cases bL q.1.Kind 1&&seq q.1.bA res with
 | false=>simp only [cond_false];exact ⟨by decide,by decide⟩
 | true=>
  cases hn:num q.2 with
  | none=>exact ⟨by decide,by decide⟩
  | some v=>exact GR hn
def wO (w:aH) (o:aA) (res:Nm):Int:=cond ((cx w.bS o).isSome&&!seq res []) ((((cx w.bS o).getD []).zip o.aN).foldl (fun s q=>s+FM res q) (cond (seq res o.Kind) 1 0)) 0
theorem Pr {α:Type} {f:α→Int} {M:Int} (hf:∀ a,0≤f a∧f a < M):∀ (l:List α) (s:Int),0≤s→0≤l.foldl (fun s q=>s+f q) s∧l.foldl (fun s q=>s+f q) s≤s+M*(l.length:Int)
 | [],s,h=>by simp [h]
 | a::r,s,h=>by
  have:=Pr hf r (s+f a) (by have:=hf a;omega)
  have h2:=hf a
  have e:M*((a::r).length:Int)=M*(r.length:Int)+M:=by rw [List.length_cons];push_cast;rw [Int.mul_add,Int.mul_one]
  rw [List.foldl_cons,e]
  omega
theorem De {w:aH} {o:aA} {res:Nm} (ho:o.aN.length≤1048576):0≤wO w o res∧wO w o res≤10485760000001:=by
 unfold wO
 cases (cx w.bS o).isSome&&!seq res [] with
 | false=>simp only [cond_false];exact ⟨by decide,by decide⟩
 | true=>
  have h:=Pr (Dd res) (((cx w.bS o).getD []).zip o.aN) (cond (seq res o.Kind) 1 0) (by cases seq res o.Kind<;>decide)
  have hl:(((cx w.bS o).getD []).zip o.aN).length≤1048576:=by simp;omega
  have hc:(cond (seq res o.Kind) 1 0:Int)≤1:=by cases seq res o.Kind<;>decide
  simp only [cond_true]
  omega
theorem Tr {k:Nat} {w:aH} {o:aA} {res:Nm} (hk:4194304*2≤k) (hw:w.bS.length≤1048576) (ho:o.aN.length≤1048576):ql k w o res=some (wO w o res):=by
 unfold ql wO
 rw [oP (by omega) hw]
 simp only [Option.bind_some,share]
 cases hf:cx w.bS o with
 | none=>rfl
 | some fs=>
  have hl:=(jA hf).1
  have hz:=Db (a:=fs) (b:=o.aN) (by omega)
  simp only [Option.isSome_some,Option.getD_some,Bool.not_true,Bool.true_and,cond_false]
  cases hr:seq res [] with
  | true=>rfl
  | false=>
   have h:=fun n0:Int=>fun (h0:0≤n0∧n0≤1)=>hY (S:=Int) (x:=fs.zip o.aN) (f:=fun s q=>s+FM res q) (B:=4194304) (l:=fun k s i=>iter (ts:=t_) (R:=Int) k (lS fun v=>some v) res o fs s i) (J:=fun s=>some s) (fun i s=>0≤s∧s≤1+10000000*(i:Int))
    (fun k s _=>by simp only [hz,iter,lS,cf,cond_false]<;>rfl)
    (fun k i s hi hb hI=>by
     rw [hz] at hi
     have c9:i < o.aN.length:=by omega
     have hw1:=Dd res (fs[i],o.aN[i])
     refine ⟨?_,by rw [List.getElem_zip];push_cast;omega⟩
     simp only [iter,lS,share,b6 hi,bF hi,bF c9,cond_true,bK,bR hi,bR c9,bH (show fs.length≤1048576 by omega) hi,Pb _ hb,Option.bind_some,List.getElem_zip,FM]
     cases c1:bL fs[i].Kind 1 with
     | false=>simp only [cond_false,Bool.false_and,Int.add_zero]<;>rfl
     | true=>
      cases c2:seq fs[i].bA res with
      | false=>simp only [cond_false,cond_true,Bool.and_false,Int.add_zero]<;>rfl
      | true=>
       cases hn:num o.aN[i] with
       | none=>simp only [cond_true,Bool.and_self,Option.getD_none,Int.add_zero];rfl
       | some v=>
        have:=GR hn
        simp only [cond_true,Bool.and_self,Option.getD_some]
        by_cases hv:0 < v
        ·rw [mB hv,sY (by omega) (by omega)];rfl
        ·rw [eh hv,show v=0 by omega,Int.add_zero];rfl) k n0 (by rw [hz];omega) ⟨h0.1,by push_cast;omega⟩
   cases seq res o.Kind with
   | true=>exact h 1 ⟨by decide,by decide⟩
   | false=>exact h 0 ⟨by decide,by decide⟩
theorem Ts {k:Nat} {w:aH} {o:aA} {res:Nm} (hk:4194304*2≤k) (hw:w.bS.length≤1048576) (ho:o.aN.length≤1048576):p6 k w o res=some (wO w o res):=by
 unfold p6 wO
 rw [yg (by omega) hw]
 simp only [Option.bind_some,share]
 cases hf:cx w.bS o with
 | none=>rfl
 | some fs=>
  have hl:=(jA hf).1
  have hz:=Db (a:=fs) (b:=o.aN) (by omega)
  simp only [Option.isSome_some,Option.getD_some,Bool.not_true,Bool.true_and,cond_false]
  cases hr:seq res [] with
  | true=>rfl
  | false=>
   have h:=fun n0:Int=>fun (h0:0≤n0∧n0≤1)=>hY (S:=Int) (x:=fs.zip o.aN) (f:=fun s q=>s+FM res q) (B:=4194304) (l:=fun k s i=>iter (ts:=tF) (R:=Int) k (lx fun v=>some v) res o s fs (fs.length:Int) i) (J:=fun s=>some s) (fun i s=>0≤s∧s≤1+10000000*(i:Int))
    (fun k s _=>by simp only [hz,iter,lx,cf,cond_false]<;>rfl)
    (fun k i s hi hb hI=>by
     rw [hz] at hi
     have c9:i < o.aN.length:=by omega
     have hw1:=Dd res (fs[i],o.aN[i])
     refine ⟨?_,by rw [List.getElem_zip];push_cast;omega⟩
     simp only [iter,lx,share,b6 hi,bF hi,bF c9,cond_true,bK,bR hi,bR c9,bH (show fs.length≤1048576 by omega) hi,RJ _ hb,Option.bind_some,List.getElem_zip,FM]
     cases c1:bL fs[i].Kind 1 with
     | false=>simp only [cond_false,Bool.false_and,Int.add_zero,Bool.not_false,cond_true]<;>rfl
     | true=>
      cases c2:seq fs[i].bA res with
      | false=>simp only [cond_false,cond_true,Bool.and_false,Int.add_zero,Bool.not_false,Bool.not_true]<;>rfl
      | true=>
       cases hn:num o.aN[i] with
       | none=>
        have e0:s+0=aQ .i64 s 0:=(sY (by omega) (by omega)).symm
        simp only [cond_true,Bool.and_self,Option.getD_none,e0]<;>rfl
       | some v=>
        have:=GR hn
        have e0:s+v=aQ .i64 s v:=(sY (by omega) (by omega)).symm
        simp only [cond_true,Bool.and_self,Option.getD_some,e0]<;>rfl) k n0 (by rw [hz];omega) ⟨h0.1,by push_cast;omega⟩
   cases seq res o.Kind with
   | true=>exact h 1 ⟨by decide,by decide⟩
   | false=>exact h 0 ⟨by decide,by decide⟩
def Ps (w:aH) (dE res:Nm) (o:aA):Int:=cond (uJ w.eg 4 o.aZ dE) (wO w o res) 0
def Cm (w:aH) (b:aE) (dE res:Nm):Int:=b.aF.foldl (fun s o=>s+Ps w dE res o) 0
theorem Xi {k:Nat} {w:aH} {b:aE} {dE res:Nm} (hk:4194304*3≤k) (hw:w.sd) (hb:b.sd) (hl:b.aF.length≤40):u_ k w b dE res=some (Cm w b dE res):=by
 obtain ⟨-,-,-,R1,-⟩:=hb
 unfold u_ Cm
 simp only [share]
 exact hY (S:=Int) (x:=b.aF) (f:=fun s o=>s+Ps w dE res o) (B:=4194304*2) (l:=fun k s i=>iter (ts:=xH) (R:=Int) k (oF fun v=>some v) dE res w b s i) (J:=fun s=>some s) (fun i s=>0≤s∧s≤10485760000001*(i:Int))
  (fun k s _=>by simp only [iter,oF,cf,cond_false]<;>rfl)
  (fun k i s hi hb hI=>by
   have hv:=(R1.2 _ (dG hi)).2.2.2.1.1
   have hr:=De (w:=w) (res:=res) hv
   simp only [iter,oF,share,b6 hi,bF hi,cond_true,bK,bR hi,bH R1.1 hi,Vi hb hw.2.2.1,Tr hb hw.1.1 hv,Option.bind_some,Ps]
   cases uJ w.eg 4 b.aF[i].aZ dE with
   | false=>exact ⟨by simp only [cond_false,Int.add_zero]<;>rfl,by simp only [cond_false];push_cast;omega⟩
   | true=>
    have e0:s+wO w b.aF[i] res=aQ .i64 s (wO w b.aF[i] res):=(sY (by omega) (by omega)).symm
    exact ⟨by simp only [cond_true,e0]<;>rfl,by simp only [cond_true];push_cast;omega⟩) k 0 (by omega) (by simp)
theorem Xj {k:Nat} {w:aH} {b:aE} {dE res:Nm} (hk:4194304*3≤k) (hw:w.sd) (hb:b.sd) (hl:b.aF.length≤40):uV k w b dE res=some (Cm w b dE res):=by
 obtain ⟨-,-,-,R1,-⟩:=hb
 unfold uV Cm
 simp only [share]
 exact hY (S:=Int) (x:=b.aF) (f:=fun s o=>s+Ps w dE res o) (B:=4194304*2) (l:=fun k s i=>iter (ts:=wT) (R:=Int) k (od fun v=>some v) dE res w s b.aF (b.aF.length:Int) i) (J:=fun s=>some s) (fun i s=>0≤s∧s≤10485760000001*(i:Int))
  (fun k s _=>by simp only [iter,od,cf,cond_false]<;>rfl)
  (fun k i s hi hb hI=>by
   have hv:=(R1.2 _ (dG hi)).2.2.2.1.1
   have hr:=De (w:=w) (res:=res) hv
   simp only [iter,od,share,b6 hi,bF hi,cond_true,bK,bR hi,bH R1.1 hi,Vj hb hw.2.2.1,Ts hb hw.1.1 hv,Option.bind_some,Ps]
   cases uJ w.eg 4 b.aF[i].aZ dE with
   | false=>exact ⟨by simp only [cond_false,Int.add_zero]<;>rfl,by simp only [cond_false];push_cast;omega⟩
   | true=>
    have e0:s+wO w b.aF[i] res=aQ .i64 s (wO w b.aF[i] res):=(sY (by omega) (by omega)).symm
    exact ⟨by simp only [cond_true,e0]<;>rfl,by simp only [cond_true];push_cast;omega⟩) k 0 (by omega) (by simp)
theorem Nq {w:aH} {b:aE} {dE res:Nm} (hb:b.sd) (hl:b.aF.length≤40):0≤Cm w b dE res∧Cm w b dE res≤419430400000040:=by
 obtain ⟨-,-,-,R1,-⟩:=hb
 unfold Cm
 have:∀ (l:List aA) (s:Int),(∀ o,o∈l→o.aN.length≤1048576)→0≤s→0≤l.foldl (fun s o=>s+Ps w dE res o) s∧l.foldl (fun s o=>s+Ps w dE res o) s≤s+10485760000001*(l.length:Int):=by
  intro l
  induction l with
  | nil=>intro s _ h;simp [h]
  | cons a r ih=>
   intro s h h0
   have hr:=De (w:=w) (res:=res) (h a (by simp))
   have hu:0≤Ps w dE res a∧Ps w dE res a≤10485760000001:=by
    unfold Ps
    cases uJ w.eg 4 a.aZ dE with
    | false=>simp only [cond_false];exact ⟨by decide,by decide⟩
    | true=>exact hr
   have:=ih (s+Ps w dE res a) (fun o ho=>h o (by simp [ho])) (by omega)
   rw [List.foldl_cons,List.length_cons]
   push_cast
   omega
 have h:=this b.aF 0 (fun o ho=>(R1.2 o ho).2.2.2.1.1) (by decide)
 omega
section
variable {α R S:Type} {x:List α} {B:Nat}
theorem Nr {p:Option α→α→Bool} {f:S→α→S} {l:Nat→S→Int→R} {E:S→R} {O:R} (he:∀ k s,l (k+1) s (x.length:Int)=E s)
  (h:∀ k i s (hi:i < x.length),B≤k→l (k+1) s (i:Int)=cond (p (ahead x i) x[i]) (l k (f s x[i]) ((i+1:Nat):Int)) O) (k:Nat) (s:S) (hk:B+x.length+1≤k):l k s 0=cond (chain p none x) (E (x.foldl f s)) O:=by
 have go:∀ m i k s,i+m=x.length→B+m+1≤k→l k s (i:Int)=cond (chain p (ahead x i) (x.drop i)) (E ((x.drop i).foldl f s)) O:=by
  intro m
  induction m with
  | zero=>
   intro i k s h1 h2
   obtain rfl:i=x.length:=by omega
   obtain ⟨k,rfl⟩:∃ j,k=j+1:=⟨k-1,by omega⟩
   simp [he,chain]
  | succ m ih=>
   intro i k s h1 h2
   obtain ⟨k,rfl⟩:∃ j,k=j+1:=⟨k-1,by omega⟩
   have hi:i < x.length:=by omega
   rw [h k i s hi (by omega),List.drop_eq_getElem_cons hi]
   have e:some x[i]=ahead x (i+1):=by simp [ahead]
   simp only [chain,e,List.foldl_cons]
   cases p (ahead x i) x[i] with
   | true=>simpa using ih (i+1) k _ (by omega) (by omega)
   | false=>rfl
 have:=go x.length 0 k s (by omega) (by omega)
 simpa [ahead] using this
end
def FN (a b:cw):Bool:=seq a.dE b.dE&&seq a.resource b.resource
theorem Df {a b:cw}:FN a b=true↔a=b:=by
 cases a;cases b
 simp only [FN,Bool.and_eq_true,ee,cw.mk.injEq]
theorem abO (a b:cw):FN a b=FN b a:=by
 rw [Bool.eq_iff_iff,Df,Df];exact eq_comm
def Dg (a:cw) (m:List cK):Int:=ja (fun p:cK=>FN a p.Key) (fun p:cK=>p.El) (0:Int) m
def pX (a:cw) (v:Int) (m:List cK):List cK:=lb (fun p:cK=>FN a p.Key) m ⟨a,v⟩
theorem Kz (a c:cw) (v:Int):∀ (m:List cK),Dg a (pX c v m)=cond (FN a c) v (Dg a m)
 | []=>by
  unfold Dg pX
  rw [O5,mL]
 | q::m=>by
  unfold Dg pX
  rw [L6]
  cases h:FN c q.Key with
  | true=>
   have e:=Df.1 h
   rw [cond_true,mL,mL,← e]
   cases FN a c<;>rfl
  | false=>
   rw [cond_false,mL,mL]
   have ih:=Kz a c v m
   unfold Dg pX at ih
   rw [ih]
   cases h1:FN a q.Key with
   | false=>rfl
   | true=>
    have e:=Df.1 h1
    subst e
    rw [show FN q.Key c=false by rw [abO];exact h];rfl
def Me (g:aI):cw:=⟨g.aZ,g.aX⟩
def Xk (q:Option aI) (g:aI):Bool:=match q with
 | none=>true
 | some p=>wm p.aZ p.aX g.aZ g.aX
def abP (w:aH) (g:aI):Bool:=(jz w.eg g.aZ).isSome&&(cH g.aX&&(ck 0 g.mN&&(ck g.mN g.b7&&ck g.b7 1000000)))
def Vk (w:aH) (q:Option aI) (g:aI):Bool:=abP w g&&Xk q g
theorem abQ {a b c d e f:Nm} (h1:wm a b c d=true) (h2:wm c d e f=true):wm a b e f=true:=by
 simp only [wm,Bool.or_eq_true,Bool.and_eq_true] at *
 rcases h1 with h1 | ⟨h1,h3⟩
 ·rcases h2 with h2 | ⟨h2,-⟩
  ·exact .inl (S5 h1 h2)
  ·rw [← ee.1 h2];exact .inl h1
 ·rw [ee.1 h1]
  rcases h2 with h2 | ⟨h2,h4⟩
  ·exact .inl h2
  ·exact .inr ⟨h2,S5 h3 h4⟩
theorem aad (a b:Nm):wm a b a b=false:=by
 simp only [wm,Od,Bool.and_false,Bool.or_false]
theorem R3:∀ {l:List aI} {q:Option aI},chain Xk q l=true→(l.map Me).Nodup∧∀ p,q=some p→∀ y,y∈l→wm p.aZ p.aX y.aZ y.aX=true
 | [],_,_=>⟨List.nodup_nil,fun _ _ _ h=>by cases h⟩
 | a::r,q,h=>by
  simp only [chain,Bool.and_eq_true] at h
  obtain ⟨h1,h2⟩:=h
  obtain ⟨h3,h4⟩:=R3 h2
  refine ⟨List.nodup_cons.2 ⟨fun hm=>?_,h3⟩,fun p hp y hy=>?_⟩
  ·obtain ⟨y,hy,e⟩:=List.mem_map.1 hm
   have:=h4 a rfl y hy
   simp only [Me,cw.mk.injEq] at e
   rw [e.1,e.2,aad] at this;cases this
  ·subst hp
   rcases List.mem_cons.1 hy with e | e
   ·exact e▸h1
   ·exact abQ h1 (h4 a rfl y e)
def Xl (b:aE) (dE res:Nm):Int:=zH (fun g=>seq g.aZ dE&&seq g.aX res) b.aT 0
theorem Xm {k:Nat} {b:aE} {dE res:Nm} (hk:4194304≤k) (hb:b.aT.length≤1048576):u9 k b dE res=some (Xl b dE res):=by
 unfold u9
 simp only [share]
 exact rD (x:=b.aT) (p:=fun g=>seq g.aZ dE&&seq g.aX res) (l:=fun k i=>iter (ts:=xG) (R:=Int) k (oE (some (-1))) dE res b i)
  (fun k=>by simp only [iter,oE,cf,cond_false]<;>rfl)
  (fun k i hi=>by
   simp only [iter,oE,share,b6 hi,bF hi,cond_true,bK,bR hi,bH hb hi]
   cases seq b.aT[i].aZ dE<;>rfl) k (by omega)
theorem abR {k:Nat} {b:aE} {dE res:Nm} (hk:4194304≤k) (hb:b.aT.length≤1048576):i_ k b dE res=some (Xl b dE res):=by
 unfold i_
 simp only [share]
 exact rD (x:=b.aT) (p:=fun g=>seq g.aZ dE&&seq g.aX res) (l:=fun k i=>iter (ts:=nB) (R:=Int) k (fW (some (-1))) dE res b.aT (b.aT.length:Int) i)
  (fun k=>by simp only [iter,fW,cf,cond_false]<;>rfl)
  (fun k i hi=>by
   simp only [iter,fW,share,b6 hi,bF hi,cond_true,bK,bR hi,bH hb hi]
   cases seq b.aT[i].aZ dE<;>rfl) k (by omega)
def Xn (z p:aL):Bool:=cond (!seq z.iP p.iP) (slt z.iP p.iP) (wm z.aZ z.aX p.aZ p.aX)
def abS (q:Option aL) (p:aL):Bool:=match q with
 | none=>true
 | some z=>Xn z p
def adE (b:aE) (p:aL):Bool:=cH p.iP&&(!bO (Xl b p.aZ p.aX) 0&&((ck 1 p.cM&&ck p.cM 1000000)&&(ck b.pd p.fX&&ck p.fX (aQ .i64 b.pd 10))))
def Tt (b:aE) (q:Option aL) (p:aL):Bool:=adE b p&&abS q p
theorem Xo (k:Nat) (a b:aL):∃ v,qk k a b=some v∧ck 0 v=!Xn a b:=by
 unfold qk Xn
 cases h:seq a.iP b.iP with
 | true=>exact ⟨_,by simp only [Bool.not_true,cond_false,Tm];rfl,Tn ..⟩
 | false=>
  refine ⟨_,by simp only [Bool.not_false,cond_true,Tl];rfl,?_⟩
  unfold Vf
  rw [h]
  cases slt a.iP b.iP<;>rfl
theorem Rf (k:Nat) (a b:aL):oe k a b=some (Xn a b):=by
 unfold oe Xn wm
 cases seq a.iP b.iP with
 | false=>rfl
 | true=>
  cases h:seq a.aZ b.aZ with
  | false=>simp
  | true=>rw [Tj h];rfl
def wM (a:cw) (p:aL):Int:=cond (FN a ⟨p.aZ,p.aX⟩) p.cM 0
def Vl (b:aE) (a:cw):Int:=b.bN.foldl (fun s p=>s+wM a p) 0
def aeX (b:aE):Prop:=∀ p,p∈b.bN→1≤p.cM∧p.cM≤1000000
theorem Mf {b:aE}:∀ {l:List aL} {q:Option aL},chain (Tt b) q l=true→∀ p,p∈l→1≤p.cM∧p.cM≤1000000
 | [],_,_,_,h=>by cases h
 | a::r,q,h,p,hp=>by
  simp only [chain,Bool.and_eq_true] at h
  rcases List.mem_cons.1 hp with e | e
  ·subst e
   simp only [Tt,adE,Bool.and_eq_true] at h
   obtain ⟨⟨⟨-,-,⟨h1,h2⟩,-⟩,-⟩,-⟩:=h
   exact ⟨s6 h1,s6 h2⟩
  ·exact Mf h.2 p e
theorem KA {a:cw}:∀ (l:List aL) (s:Int),(∀ p,p∈l→1≤p.cM∧p.cM≤1000000)→l.foldl (fun s p=>s+wM a p) s=s+l.foldl (fun s p=>s+wM a p) 0∧0≤l.foldl (fun s p=>s+wM a p) 0∧l.foldl (fun s p=>s+wM a p) 0≤1000000*(l.length:Int)
 | [],s,_=>by simp
 | p::r,s,h=>by
  have h1:0≤wM a p∧wM a p≤1000000:=by
   have:=h p (by simp)
   unfold wM
   cases FN a ⟨p.aZ,p.aX⟩ with
   | true=>simp only [cond_true];omega
   | false=>simp only [cond_false];omega
  have ih1:=KA (a:=a) r (s+wM a p) (fun q hq=>h q (by simp [hq]))
  have ih2:=KA (a:=a) r (0+wM a p) (fun q hq=>h q (by simp [hq]))
  rw [List.foldl_cons,List.foldl_cons,List.length_cons]
  push_cast
  omega
theorem aae {k:Nat} {b:aE} {dE res:Nm} (hk:4194304≤k) (hl:b.bN.length≤1048576) (hg:aeX b):CS k b dE res=some (Vl b ⟨dE,res⟩):=by
 unfold CS Vl
 simp only [share]
 exact hY (S:=Int) (x:=b.bN) (f:=fun s p=>s+wM ⟨dE,res⟩ p) (B:=0) (l:=fun k s i=>iter (ts:=BR) (R:=Int) k (vc fun v=>some v) dE res b s i) (J:=fun s=>some s) (fun i s=>0≤s∧s≤1000000*(i:Int))
  (fun k s _=>by simp only [iter,vc,cf,cond_false]<;>rfl)
  (fun k i s hi hb hI=>by
   have hv:=hg _ (dG hi)
   have e0:s+b.bN[i].cM=aQ .i64 s b.bN[i].cM:=(sY (by omega) (by omega)).symm
   simp only [iter,vc,share,b6 hi,bF hi,cond_true,bK,bR hi,bH hl hi,wM,FN]
   rw [Ku dE,Ku res]
   cases seq b.bN[i].aZ dE with
   | false=>exact ⟨by simp only [cond_false,Bool.false_and,Int.add_zero]<;>rfl,by simp only [cond_false,Bool.false_and];push_cast;omega⟩
   | true=>
    cases seq b.bN[i].aX res with
    | false=>exact ⟨by simp only [cond_false,Bool.and_false,Int.add_zero]<;>rfl,by simp only [cond_false,Bool.and_false];push_cast;omega⟩
    | true=>exact ⟨by simp only [cond_true,Bool.and_self,e0]<;>rfl,by simp only [cond_true,Bool.and_self];push_cast;omega⟩) k 0 (by omega) (by simp)
def Vm (w:aH) (b:aE) (g:aI):Bool:=bL (Cm w b g.aZ g.aX+Vl b (Me g)+g.mN) g.b7
def Pt (w:aH) (b:aE):Bool:=(ck (b.aT.length:Int) 10&&ck (b.bN.length:Int) 24)&&(chain (Tt b) none b.bN&&(chain (Vk w) none b.aT&&b.aT.all (Vm w b)))
theorem Rg {w:aH} {b:aE} {k:Nat} (hk:4194304*5≤k) (hw:w.sd) (hb:b.sd) (hl:b.aF.length≤40) (hg:aeX b):
  iter (ts:=nN) (R:=Bool) k (jr (some true)) w b (0:Int)=some (chain (Vk w) none b.aT&&b.aT.all (Vm w b)):=by
 have cu:=hb
 obtain ⟨-,-,-,-,-,hle,hpu⟩:=hb
 have h:=fq (R:=Option Bool) (x:=b.aT) (p:=fun q g=>Vk w q g&&Vm w b g) (B:=4194304*3) (l:=fun k i=>iter (ts:=nN) (R:=Bool) k (jr (some true)) w b i) (E:=some true) (O:=some false)
  (fun k=>by simp only [iter,jr,cf,cond_false]<;>rfl)
  (fun k i hi hbk=>by
   have hgi:=hle.2 _ (dG hi)
   simp only [iter,jr,share,b6 hi,bF hi,cond_true,bK,bR hi,O7 (show 4194304≤k by omega) hw.2.2.1,eL (show 4194304≤k by omega) hgi.2.1,Xi (dE:=b.aT[i].aZ) (res:=b.aT[i].aX) hbk hw cu hl,aae (dE:=b.aT[i].aZ) (res:=b.aT[i].aX) (show 4194304≤k by omega) hpu.1 hg,Option.bind_some,bH hle.1 hi,Vk,abP,cO,Vm,Me]
   have hu:=Nq (w:=w) (dE:=b.aT[i].aZ) (res:=b.aT[i].aX) cu hl
   have ho:=(KA (a:=⟨b.aT[i].aZ,b.aT[i].aX⟩) b.bN 0 hg).2
   have LF:0≤Vl b ⟨b.aT[i].aZ,b.aT[i].aX⟩∧Vl b ⟨b.aT[i].aZ,b.aT[i].aX⟩≤1000000*(b.bN.length:Int):=ho
   have hpl:=hpu.1
   cases (jz w.eg b.aT[i].aZ).isSome with
   | false=>rfl
   | true=>
    cases cH b.aT[i].aX with
    | false=>rfl
    | true=>
     cases f1:ck 0 b.aT[i].mN with
     | false=>rfl
     | true=>
      cases f2:ck b.aT[i].mN b.aT[i].b7 with
      | false=>rfl
      | true=>
       cases f3:ck b.aT[i].b7 1000000 with
       | false=>rfl
       | true=>
        have f1':=s6 f1
        have f2':=s6 f2
        have f3':=s6 f3
        rw [sY (m:=Cm w b b.aT[i].aZ b.aT[i].aX) (by omega) (by omega),sY (by omega) (by omega)]
        rcases Nat.eq_zero_or_pos i with rfl | h0
        ·simp only [Bool.not_true,cond_false,Iv (show (((0:Nat):Int))≤0 by omega),l9,Xk,Bool.and_self,Bool.true_and]
         cases bL (Cm w b b.aT[0].aZ b.aT[0].aX+Vl b ⟨b.aT[0].aZ,b.aT[0].aX⟩+b.aT[0].mN) b.aT[0].b7<;>rfl
        ·have c9:i-1 < b.aT.length:=by omega
         simp only [Bool.not_true,Bool.not_false,cond_true,cond_false,UU (show ¬ ((i:Int))≤0 by omega),qP h0 (show i≤1048576 by have:=hle.1;omega),bF c9,bK,bR c9,l_ h0 hi,Xk,Tm,Option.bind_some,Tn,Bool.and_self,Bool.true_and]
         cases wm b.aT[i-1].aZ b.aT[i-1].aX b.aT[i].aZ b.aT[i].aX<;>cases bL (Cm w b b.aT[i].aZ b.aT[i].aX+Vl b ⟨b.aT[i].aZ,b.aT[i].aX⟩+b.aT[i].mN) b.aT[i].b7<;>rfl) k (by have:=hle.1;omega)
 rw [ym,yn] at h
 exact h.trans (by cases chain (Vk w) none b.aT&&b.aT.all (Vm w b)<;>rfl)
theorem Xp {k:Nat} {w:aH} {b:aE} (hk:4194304*5≤k) (hw:w.sd) (hb:b.sd) (hl:b.aF.length≤40):vd k w b=some (Pt w b):=by
 have cu:=hb
 obtain ⟨-,-,-,-,-,hle,hpu⟩:=hb
 unfold vd Pt
 have h:=fun J:aH→aE→Option Bool=>fq (R:=Option Bool) (x:=b.bN) (p:=Tt b) (B:=4194304*2) (l:=fun k i=>iter (ts:=xI) (R:=Bool) k (oG J) w b i) (E:=J w b) (O:=some false)
  (fun k=>by simp only [iter,oG,cf,cond_false]<;>rfl)
  (fun k i hi hbk=>by
   have hpi:=hpu.2 _ (dG hi)
   simp only [iter,oG,share,b6 hi,bF hi,cond_true,bK,bR hi,eL (show 4194304≤k by omega) hpi.1,Xm (show 4194304≤k by omega) hle.1,OZ,Option.bind_some,bH hpu.1 hi,Tt,adE]
   rcases Nat.eq_zero_or_pos i with rfl | h0
   ·simp only [sZ,l9,abS]
    cases cH b.bN[0].iP<;>cases bO (Xl b b.bN[0].aZ b.bN[0].aX) 0<;>cases ck 1 b.bN[0].cM&&ck b.bN[0].cM 1000000<;>cases ck b.pd b.bN[0].fX&&ck b.bN[0].fX (aQ .i64 b.pd 10)<;>rfl
   ·have c9:i-1 < b.bN.length:=by omega
    obtain ⟨v,v1,v2⟩:=Xo k b.bN[i-1] b.bN[i]
    simp only [A1 h0,qP h0 (show i≤1048576 by have:=hpu.1;omega),bF c9,cond_true,bK,bR c9,l_ h0 hi,v1,v2,Option.bind_some,abS]
    cases cH b.bN[i].iP<;>cases bO (Xl b b.bN[i].aZ b.bN[i].aX) 0<;>cases ck 1 b.bN[i].cM&&ck b.bN[i].cM 1000000<;>cases ck b.pd b.bN[i].fX&&ck b.bN[i].fX (aQ .i64 b.pd 10)<;>cases Xn b.bN[i-1] b.bN[i]<;>rfl) k (by have:=hpu.1;omega)
 simp only [share,cO]
 cases ck (b.aT.length:Int) 10 with
 | false=>rfl
 | true=>
  cases ck (b.bN.length:Int) 24 with
  | false=>rfl
  | true=>
   refine (h _).trans ?_
   cases hc:chain (Tt b) none b.bN with
   | false=>rfl
   | true=>exact (Rg hk hw cu hl fun p hp=>Mf hc p hp).trans rfl
theorem YM {α:Type} {p q:α→Bool}:∀ {l:List α},(∀ a,a∈l→p a=q a)→l.all p=l.all q
 | [],_=>rfl
 | a::r,h=>by rw [List.all_cons,List.all_cons,h a (by simp),YM (l:=r) fun b hb=>h b (by simp [hb])]
def Xq (w:aH) (b:aE) (m:List cK) (g:aI):List cK:=pX (Me g) (aQ .i64 g.mN (Cm w b g.aZ g.aX)) m
def rF (p:aL):cw:=⟨p.aZ,p.aX⟩
def aaf (m:List cK) (p:aL):List cK:=pX (rF p) (aQ .i64 (Dg (rF p) m) p.cM) m
theorem afG {a b:cw} (h:a≠b):FN a b=false:=by
 cases e:FN a b with
 | false=>rfl
 | true=>exact absurd (Df.1 e) h
theorem abT (a:cw):FN a a=true:=Df.2 rfl
theorem Pv {w:aH} {b:aE} {a:cw}:∀ (l:List aI) (m:List cK),(∀ g,g∈l→a≠Me g)→Dg a (l.foldl (Xq w b) m)=Dg a m
 | [],_,_=>rfl
 | g::r,m,h=>by
  rw [List.foldl_cons,Pv r _ fun x hx=>h x (by simp [hx])]
  unfold Xq
  rw [Kz,afG (h g (by simp))];rfl
theorem Vn {w:aH} {b:aE}:∀ (l:List aI) (m:List cK),(l.map Me).Nodup→∀ g,g∈l→Dg (Me g) (l.foldl (Xq w b) m)=aQ .i64 g.mN (Cm w b g.aZ g.aX)
 | [],_,_,_,h=>by cases h
 | g::r,m,hn,x,hx=>by
  simp only [List.map_cons,List.nodup_cons] at hn
  rw [List.foldl_cons]
  rcases List.mem_cons.1 hx with e | e
  ·subst e
   rw [Pv r _ fun y hy e=>hn.1 (by rw [e];exact List.mem_map_of_mem hy)]
   unfold Xq
   rw [Kz,abT];rfl
  ·exact Vn r _ hn.2 x e
theorem Vo {a:cw}:∀ (l:List aL) (m:List cK),(∀ p,p∈l→1≤p.cM∧p.cM≤1000000)→0≤Dg a m→Dg a m+1000000*(l.length:Int)≤9223372036854775807→Dg a (l.foldl aaf m)=Dg a m+l.foldl (fun s p=>s+wM a p) 0
 | [],m,_,_,_=>by simp
 | p::r,m,h,h0,h1=>by
  have hp:=h p (by simp)
  have hr:∀ q,q∈r→1≤q.cM∧q.cM≤1000000:=fun q hq=>h q (by simp [hq])
  rw [List.length_cons] at h1
  push_cast at h1
  have hg:Dg a (aaf m p)=Dg a m+wM a p:=by
   unfold aaf wM
   rw [Kz]
   have ek:(⟨p.aZ,p.aX⟩:cw)=rF p:=rfl
   rw [ek]
   cases e:FN a (rF p) with
   | false=>simp only [cond_false,Int.add_zero]
   | true=>
    simp only [cond_true]
    rw [← Df.1 e,sY (by omega) (by omega)]
  have ho:0≤wM a p∧wM a p≤1000000:=by
   unfold wM
   cases FN a ⟨p.aZ,p.aX⟩ with
   | true=>simp only [cond_true];omega
   | false=>simp only [cond_false];omega
  rw [List.foldl_cons,Vo r (aaf m p) hr (by omega) (by omega),hg,List.foldl_cons,(KA (a:=a) r (0+wM a p) hr).1]
  omega
theorem Xr {k:Nat} {w:aH} {b:aE} (hk:4194304*5≤k) (hw:w.sd) (hb:b.sd) (hl:b.aF.length≤40):jb k b w=some (Pt w b):=by
 have cu:=hb
 obtain ⟨-,-,-,-,-,hle,hpu⟩:=hb
 unfold jb Pt
 have h5:=fun J:aE→List cK→Option Bool=>Nr (R:=Option Bool) (x:=b.aT) (p:=Vk w) (f:=Xq w b) (B:=4194304*3) (l:=fun k m i=>iter (ts:=nC) (R:=Bool) k (fY J) b w b.aT (b.aT.length:Int) i m) (E:=fun m=>J b m) (O:=some false)
  (fun k m=>by simp only [iter,fY,cf,cond_false]<;>rfl)
  (fun k i m hi hbk=>by
   have hgi:=hle.2 _ (dG hi)
   simp only [iter,fY,share,b6 hi,bF hi,cond_true,bK,bR hi,Cl (show 4194304≤k by omega) hw.2.2.1,R2,gG (show 4194304≤k by omega) hgi.2.1,Xj (dE:=b.aT[i].aZ) (res:=b.aT[i].aX) hbk hw cu hl,Option.bind_some,Vk,abP]
   rw [bH hle.1 hi,cO b.aT[i].mN,cO b.aT[i].b7,cO 1000000]
   rcases Nat.eq_zero_or_pos i with rfl | h0
   ·simp only [sZ,l9,Xk]
    cases (jz w.eg b.aT[0].aZ).isSome<;>cases cH b.aT[0].aX<;>cases ck 0 b.aT[0].mN<;>cases ck b.aT[0].mN b.aT[0].b7<;>cases ck b.aT[0].b7 1000000<;>rfl
   ·have c9:i-1 < b.aT.length:=by omega
    simp only [A1 h0,qP h0 (show i≤1048576 by have:=hle.1;omega),bF c9,cond_true,bK,bR c9,l_ h0 hi,Xk,wm]
    cases h1:seq b.aT[i-1].aZ b.aT[i].aZ with
    | true=>
     rw [Tj h1]
     cases slt b.aT[i-1].aX b.aT[i].aX<;>cases (jz w.eg b.aT[i].aZ).isSome<;>cases cH b.aT[i].aX<;>cases ck 0 b.aT[i].mN<;>cases ck b.aT[i].mN b.aT[i].b7<;>cases ck b.aT[i].b7 1000000<;>rfl
    | false=>
     cases slt b.aT[i-1].aZ b.aT[i].aZ<;>cases (jz w.eg b.aT[i].aZ).isSome<;>cases cH b.aT[i].aX<;>cases ck 0 b.aT[i].mN<;>cases ck b.aT[i].mN b.aT[i].b7<;>cases ck b.aT[i].b7 1000000<;>rfl) k [] (by have:=hle.1;omega)
 have h16:=fun (J:aE→List cK→Option Bool) (m:List cK)=>Nr (R:=Option Bool) (x:=b.bN) (p:=Tt b) (f:=aaf) (B:=4194304*2) (l:=fun k m i=>iter (ts:=m_) (R:=Bool) k (fA J) b b.bN (b.bN.length:Int) i m) (E:=fun m=>J b m) (O:=some false)
  (fun k m=>by simp only [iter,fA,cf,cond_false]<;>rfl)
  (fun k i m hi hbk=>by
   have hpi:=hpu.2 _ (dG hi)
   simp only [iter,fA,share,b6 hi,bF hi,cond_true,bK,bR hi,abR (show 4194304≤k by omega) hle.1,gG (show 4194304≤k by omega) hpi.1,Rf,Option.bind_some,Tt,adE]
   rw [bH hpu.1 hi,cO b.bN[i].cM,cO 1000000,cO b.bN[i].fX,cO (aQ .i64 b.pd 10)]
   rcases Nat.eq_zero_or_pos i with rfl | h0
   ·simp only [sZ,l9,abS]
    cases cH b.bN[0].iP<;>cases bO (Xl b b.bN[0].aZ b.bN[0].aX) 0<;>cases ck 1 b.bN[0].cM<;>cases ck b.bN[0].cM 1000000<;>cases ck b.pd b.bN[0].fX<;>cases ck b.bN[0].fX (aQ .i64 b.pd 10)<;>rfl
   ·have c9:i-1 < b.bN.length:=by omega
    simp only [A1 h0,qP h0 (show i≤1048576 by have:=hpu.1;omega),bF c9,cond_true,bK,bR c9,l_ h0 hi,abS]
    cases Xn b.bN[i-1] b.bN[i]<;>cases cH b.bN[i].iP<;>cases bO (Xl b b.bN[i].aZ b.bN[i].aX) 0<;>cases ck 1 b.bN[i].cM<;>cases ck b.bN[i].cM 1000000<;>cases ck b.pd b.bN[i].fX<;>cases ck b.bN[i].fX (aQ .i64 b.pd 10)<;>rfl) k m (by have:=hpu.1;omega)
 have h26:=fun m:List cK=>gF (R:=Option Bool) (x:=b.aT) (p:=fun g=>bL (Dg (Me g) m) g.b7) (B:=0) (l:=fun k i=>iter (ts:=m9) (R:=Bool) k (fy (some true)) b.aT (b.aT.length:Int) i m) (E:=some true) (O:=some false)
  (fun k=>by simp only [iter,fy,cf,cond_false]<;>rfl)
  (fun k i hi _=>by
   simp only [iter,fy,b6 hi,bF hi,cond_true,bK,bR hi,bH hle.1 hi]
   have e:ja (fun p:cK=>(seq b.aT[i].aZ p.Key.dE&&(seq b.aT[i].aX p.Key.resource))) (fun p:cK=>p.El) (0:Int) m=Dg (Me b.aT[i]) m:=rfl
   rw [e]
   cases bL (Dg (Me b.aT[i]) m) b.aT[i].b7<;>rfl) k (by have:=hle.1;omega)
 simp only [share,cO]
 cases hl1:ck (b.aT.length:Int) 10 with
 | false=>rfl
 | true=>
  cases Tu:ck (b.bN.length:Int) 24 with
  | false=>rfl
  | true=>
   refine (h5 _).trans ?_
   cases hc:chain (Vk w) none b.aT with
   | false=>simp only [Bool.false_and,Bool.and_false];rfl
   | true=>
    refine (h16 _ _).trans ?_
    cases hp:chain (Tt b) none b.bN with
    | false=>rfl
    | true=>
     refine (h26 _).trans ?_
     have hg:=Mf hp
     have afH:chain (fun q g=>abP w g&&Xk q g) none b.aT=true:=hc
     rw [ym,yn] at afH
     have n5:=List.all_eq_true.1 (Bool.and_eq_true_iff.1 afH).1
     have Ck:=(R3 (Bool.and_eq_true_iff.1 afH).2).1
     have aj1:=s6 Tu
     rw [YM (p:=fun g=>bL (Dg (Me g) (b.bN.foldl aaf (b.aT.foldl (Xq w b) []))) g.b7) (q:=Vm w b) fun g hgm=>by
      have hu:=Nq (w:=w) (dE:=g.aZ) (res:=g.aX) cu hl
      have h0:=n5 g hgm
      simp only [abP,Bool.and_eq_true] at h0
      have f1:=s6 h0.2.2.1
      have f2:=s6 h0.2.2.2.1
      have f3:=s6 h0.2.2.2.2
      have e1:=Vn (w:=w) (b:=b) b.aT [] Ck g hgm
      rw [sY (by omega) (by omega)] at e1
      have e2:=Vo (a:=Me g) b.bN (b.aT.foldl (Xq w b) []) hg (by omega) (by omega)
      rw [e2,e1]
      unfold Vm Vl
      congr 1
      omega]
     cases b.aT.all (Vm w b)<;>rfl
def mW (w:aH) (b:aE):Bool:=(Ee w&&((ck 0 b.GL&&ck b.GL 1000000)&&((ck 0 b.pd&&ck b.pd 1000000)&&(ck 0 b.lh&&ck b.lh b.GL))))&&(oQ w b&&(zN b&&Pt w b))
theorem R4 {w:aH} {b:aE} (h:oQ w b=true):b.aF.length≤40:=by
 simp only [oQ,Bool.and_eq_true] at h
 have:=s6 h.1;omega
theorem Ns {w:aH} (h:Ee w=true):gh w.bS w.ib=true:=by
 simp only [Ee,Bool.and_eq_true] at h;exact h.1
theorem Km {k:Nat} {w:aH} {b:aE} (hk:4194304*12≤k) (hw:w.sd) (hb:b.sd):ml k w b=some (mW w b):=by
 unfold ml mW
 simp only [share,U6 (show 4194304*6≤k by omega) hw,OZ,Option.bind_some,Tp (show 4194304*3≤k by omega) hb]
 cases hl:Ee w with
 | false=>rfl
 | true=>
  rw [Rc (show 4194304*10≤k by omega) hw hb (Ns hl)]
  cases ck 0 b.GL&&ck b.GL 1000000 with
  | false=>rfl
  | true=>
   cases ck 0 b.pd&&ck b.pd 1000000 with
   | false=>rfl
   | true=>
    cases ck 0 b.lh&&ck b.lh b.GL with
    | false=>rfl
    | true=>
     cases ho:oQ w b with
     | false=>rfl
     | true=>
      rw [Xp (show 4194304*5≤k by omega) hw hb (R4 ho)]
      cases zN b<;>rfl
theorem yf {k:Nat} {w:aH} {b:aE} (hk:4194304*12≤k) (hw:w.sd) (hb:b.sd):gn k w b=some (mW w b):=by
 unfold gn mW
 simp only [share,U7 (show 4194304*7≤k by omega) hw,Option.bind_some,Tq (show 4194304*3≤k by omega) hb,cO]
 cases hl:Ee w with
 | false=>rfl
 | true=>
  rw [Re hk hw hb (Ns hl)]
  cases ck 0 b.GL with
  | false=>rfl
  | true=>
   cases ck b.GL 1000000 with
   | false=>rfl
   | true=>
    cases ck 0 b.pd with
    | false=>rfl
    | true=>
     cases ck b.pd 1000000 with
     | false=>rfl
     | true=>
      cases ck 0 b.lh with
      | false=>rfl
      | true=>
       cases ck b.lh b.GL with
       | false=>rfl
       | true=>
        cases ho:oQ w b with
        | false=>rfl
        | true=>
         rw [Xr (show 4194304*5≤k by omega) hw hb (R4 ho)]
         cases zN b<;>rfl
theorem aeY {w:aH} (h:Ee w=true):Kv w.eg=true:=by
 simp only [Ee,Bool.and_eq_true] at h;exact h.2
theorem afI {w:aH} {b:aE} (h:mW w b=true):Ee w=true:=by
 simp only [mW,Bool.and_eq_true] at h;exact h.1.1
theorem Tv {b:aE}:∀ {l:List aK} {q:Option aK},chain (Dc b) q l=true→∀ g,g∈l→Bq g.cP=true
 | [],_,_,_,h=>by cases h
 | a::r,q,h,g,hg=>by
  simp only [chain,Bool.and_eq_true] at h
  rcases List.mem_cons.1 hg with e | e
  ·subst e
   have h1:=h.1
   simp only [Dc,Bool.and_eq_true] at h1
   exact h1.2.2.2.2
  ·exact Tv h.2 g e
theorem Yd.ge {α:Type} {F:Nat→Option α} {a:α} (C:Nat) (h:∀ k,C≤k→F k=some a):Yd F a:=⟨C,h⟩
theorem Pw (x:List (List UInt8)):gI rG x=x.length:=by
 induction x with
 | nil=>rfl
 | cons a r ih=>simp only [gI,ih,rG,List.length_cons];omega
theorem Nt {α:Type} {w:α→Int} {b:Int} {xs:List α} (hx:xs.length≤1048576) (hb:0≤b) (h:∀ x,x∈xs→w x≤b):gI w xs≤1048576*b:=
 Int.le_trans (abU h) (Int.mul_le_mul_of_nonneg_right (by omega) hb)
theorem YN {xs:List aC} (h:gW aC.sd xs):0≤gI dM xs∧gI dM xs≤1200000000000000000:=by
 refine ⟨kX IA xs,Int.le_trans (Nt (b:=1100000000001) h.1 (by omega) fun s hs=>?_) (by omega)⟩
 have h2:=Nt (w:=eP) (b:=1048586) (h.2 s hs).2.1 (by omega) fun f hf=>by
  have h3:=((h.2 s hs).2.2 f hf).2.2.2.2.1.1
  unfold eP
  rw [Pw]
  omega
 unfold dM
 omega
theorem abV {xs:List aD} (h:gW aD.sd xs):0≤gI fw xs∧gI fw xs≤10000000:=
 ⟨kX KB xs,Int.le_trans (Nt (b:=6) h.1 (by omega) fun s _=>by unfold fw;omega) (by omega)⟩
def idxs {α:Type} (p:α→Bool):List α→Nat→List Int
 | [],_=>[]
 | a::r,i=>cond (p a) ((i:Int)::idxs p r (i+1)) (idxs p r (i+1))
theorem OU {α:Type} {p:α→Bool}:∀ {x:List α} {i:Nat},(idxs p x i).length≤x.length
 | [],_=>Nat.le_refl _
 | a::r,i=>by
  have:=OU (p:=p) (x:=r) (i:=i+1)
  simp only [idxs]
  cases p a<;>simp<;>omega
theorem R5 {α R:Type} {p:α→Bool}:∀ (x:List α) (i:Nat) (s:List Int),scan (R:=R) (fun s i a=>.inl (cond (p a) (s++[(i:Int)]) s)) x i s=.inl (s++idxs p x i)
 | [],_,s=>by simp [scan,idxs]
 | a::r,i,s=>by
  simp only [scan,idxs]
  rw [R5 r (i+1)]
  cases p a<;>simp
theorem Mg {α R:Type} {x:List α} {B:Nat} {p:α→Bool} {l:Nat→List Int→Int→R} {J:List Int→R} (he:∀ k s,l (k+1) s (x.length:Int)=J s)
  (h:∀ k i s (hi:i < x.length),B≤k→s.length≤i→l (k+1) s (i:Int)=l k (cond (p x[i]) (s++[(i:Int)]) s) ((i+1:Nat):Int)) (k:Nat) (hk:B+x.length+1≤k):l k [] 0=J (idxs p x 0):=by
 have:=L4 (x:=x) (B:=B) (l:=l) (J:=J) (f:=fun s i a=>.inl (cond (p a) (s++[(i:Int)]) s)) (fun i s=>s.length≤i) (fun k s _=>he k s)
  (fun k i s hi hb hs=>⟨h k i s hi hb hs,fun s' e=>by cases e;cases p x[i]<;>simp<;>omega⟩) k [] hk (Nat.le_refl _)
 rw [this,R5]
 rfl
theorem SY {α:Type} {p:α→Bool}:∀ {x:List α} {i:Nat},i+x.length≤1048576→∀ n,n∈idxs p x i→mn .i64 n
 | [],_,_,n,h=>by simp [idxs] at h
 | a::r,i,hi,n,h=>by
  simp only [List.length_cons] at hi
  have ih:=SY (p:=p) (x:=r) (i:=i+1) (by omega) n
  simp only [idxs] at h
  cases hp:p a with
  | false=>rw [hp] at h;exact ih h
  | true=>
   rw [hp] at h
   simp only [cond_true,List.mem_cons] at h
   rcases h with rfl | h
   ·exact ⟨show (-9223372036854775808:Int)≤i by omega,show (i:Int)≤9223372036854775807 by omega⟩
   ·exact ih h
def nmP (t:aA) (role:Int) (q:aB×Nm):Bool:=bL q.1.Kind 4&&(bL q.1.cz role&&(!seq q.2 []&&(seq q.1.To t.Kind&&seq q.2 t.Name)))
def s7 (w:aH) (o t:aA) (role:Int):Bool:=(((cx w.bS o).getD []).zip o.aN).any (nmP t role)
theorem aag {k:Nat} {b:aE} {j:Nat} {role:Int} {fs:List aB} {o:aA} (hk:4194304≤k) (hj:j < b.aF.length) (hl:fs.length≤o.aN.length) (hv:o.aN.length≤1048576):
  iter (ts:=qK) (R:=Bool) k (mv (some false)) (j:Int) role b fs (0:Int) o=some ((fs.zip o.aN).any (nmP b.aF[j] role)):=by
 have hz:=Db hl
 refine (zF (R:=Option Bool) (x:=fs.zip o.aN) (p:=nmP b.aF[j] role) (B:=0) (l:=fun k n=>iter (ts:=qK) (R:=Bool) k (mv (some false)) (j:Int) role b fs n o) (E:=some false) (O:=some true)
  (fun k=>by simp only [hz,iter,mv,cf,cond_false]<;>rfl)
  (fun k n hn _=>by
   rw [hz] at hn
   have hn':n < o.aN.length:=by omega
   simp only [iter,mv,share,b6 hn,bF hn,bF hn',bF hj,cond_true,bK,bR hn,bR hn',bR hj,bH (show fs.length≤1048576 by omega) hn,List.getElem_zip,nmP]
   cases bL fs[n].Kind 4 with
   | false=>rfl
   | true=>
    cases bL fs[n].cz role with
    | false=>rfl
    | true=>
     cases seq o.aN[n] [] with
     | true=>rfl
     | false=>
      cases seq fs[n].To b.aF[j].Kind with
      | false=>rfl
      | true=>cases seq o.aN[n] b.aF[j].Name<;>rfl) k (by rw [hz];omega)).trans ?_
 cases (fs.zip o.aN).any (nmP b.aF[j] role)<;>rfl
theorem aah {k:Nat} {w:aH} {b:aE} {i j:Nat} {role:Int} (hk:4194304*2≤k) (hw:w.bS.length≤1048576) (hi:i < b.aF.length) (hj:j < b.aF.length) (hv:b.aF[i].aN.length≤1048576):
  lI k w b (i:Int) (j:Int) role=some (s7 w b.aF[i] b.aF[j] role):=by
 unfold lI s7
 rw [bF hi,bR hi,oP (show 4194304≤k by omega) hw]
 refine (aag (k:=k) (j:=j) (role:=role) (fs:=(cx w.bS b.aF[i]).getD []) (o:=nth (default:aA) b.aF (i:Int)) (by omega) hj ?_ ?_).trans ?_
 ·rw [bR hi];exact Np w.bS b.aF[i]
 ·rw [bR hi];exact hv
 ·rw [bR hi]
theorem R6 {o t:aA} {role:Int} {e:Bool}:∀ (z:List (aB×Nm)) (i:Nat),(∀ n (h:n < z.length),∃ h':i+n < o.aN.length,o.aN[i+n]=z[n].2)→
  DL (ts:=qA) (R:=Bool) mf (fun (_ _:aA) (_:Int) (_:Bool)=>some false) (wN z i) o t role e=some (z.any (nmP t role))
 | [],_,_=>rfl
 | q::r,i,h=>by
  have ih:=R6 (o:=o) (t:=t) (role:=role) (e:=e) r (i+1) fun n hn=>by
   obtain ⟨h1,h2⟩:=h (n+1) (by simpa using hn)
   exact ⟨by omega,by simpa [show i+1+n=i+(n+1) by omega] using h2⟩
  obtain ⟨h1,h2⟩:=h 0 (by simp)
  simp only [Nat.add_zero,List.getElem_cons_zero] at h1 h2
  simp only [wN,List.any_cons]
  have hq:nmP t role q=(bL q.1.Kind 4&&(bL q.1.cz role&&(!seq q.2 []&&(seq q.1.To t.Kind&&seq q.2 t.Name)))):=rfl
  rw [hq]
  cases c1:bL q.1.Kind 4 with
  | false=>exact ih
  | true=>
   cases c2:seq q.2 [] with
   | true=>simpa using ih
   | false=>
    simp only [Bool.not_false,Bool.and_self,cond_true,Bool.true_and]
    change mf ((i:Int),q.1,()) (DL (ts:=qA) (R:=Bool) mf (fun (_ _:aA) (_:Int) (_:Bool)=>some false) (wN r (i+1))) o t role e=_
    unfold mf
    simp only [share,bF h1,bK,bR h1,h2]
    cases bL q.1.cz role with
    | false=>exact ih
    | true=>
     cases seq q.1.To t.Kind with
     | false=>exact ih
     | true=>
      cases seq q.2 t.Name with
      | false=>exact ih
      | true=>rfl
theorem aai {k:Nat} {w:aH} {o t:aA} {role:Int} (hk:4194304≤k) (hw:w.bS.length≤1048576) (hv:o.aN.length≤1048576):ly k w o t role=some (s7 w o t role):=by
 unfold ly qz s7
 simp only [Option.bind_some,YL hk hw hv]
 exact R6 _ 0 abJ
theorem abW {xs:List aJ} (h:gW aJ.sd xs):0≤gI gi xs∧gI gi xs≤10000000:=
 ⟨kX KC xs,Int.le_trans (Nt (b:=2) h.1 (by omega) fun s _=>by unfold gi;omega) (by omega)⟩
theorem Vp {xs:List aA} (h:gW aA.sd xs):0≤gI db xs∧gI db xs≤10000000000000:=
 ⟨kX FO xs,Int.le_trans (Nt (b:=2097157) h.1 (by omega) fun s hs=>by
  have h1:=(h.2 s hs).2.2.2.1.1
  have h2:=(h.2 s hs).2.2.2.2.2.1.1
  unfold db
  rw [Pw,Pw];omega) (by omega)⟩
theorem abo (xs:List Int):gI pW xs=xs.length:=by
 induction xs with
 | nil=>rfl
 | cons a r ih=>simp only [gI,ih,pW,List.length_cons];omega
theorem YO {xs:List aK} (h:gW aK.sd xs):0≤gI dN xs∧gI dN xs≤10000000000000:=
 ⟨kX IB xs,Int.le_trans (Nt (b:=1048582) h.1 (by omega) fun s hs=>by
  have h1:=(h.2 s hs).2.2.2.1.1
  unfold dN
  rw [abo];omega) (by omega)⟩
theorem Vq {xs:List aI} (h:gW aI.sd xs):0≤gI du xs∧gI du xs≤10000000:=
 ⟨kX FP xs,Int.le_trans (Nt (b:=4) h.1 (by omega) fun s _=>by unfold du;omega) (by omega)⟩
theorem YP {xs:List aL} (h:gW aL.sd xs):0≤gI eQ xs∧gI eQ xs≤10000000:=
 ⟨kX IC xs,Int.le_trans (Nt (b:=5) h.1 (by omega) fun s _=>by unfold eQ;omega) (by omega)⟩
def abX (x:aH):Int:=gI dM x.bS+gI fw x.ib+gI gi x.eg
def Vr (x:aE):Int:=gI db x.aF+gI dN x.bZ+gI du x.aT+gI eQ x.bN
theorem abn {x:aH} (h:x.sd):0≤abX x∧abX x≤1300000000000000000:=by
 have h1:=YN h.1
 have h2:=abV h.2.1
 have h3:=abW h.2.2
 unfold abX;omega
theorem YA {x:aE} (h:x.sd):0≤Vr x∧Vr x≤30000000000000:=by
 have h1:=Vp h.2.2.2.1
 have h2:=YO h.2.2.2.2.1
 have h3:=Vq h.2.2.2.2.2.1
 have h4:=YP h.2.2.2.2.2.2
 unfold Vr;omega
def ahl (m:Int) (x:aH):List aC×List aD×List aJ:=(Eb dM I_ m x.bS,Eb fw Mh (m+gI dM x.bS) x.ib,Eb gi Mi (m+gI dM x.bS+gI fw x.ib) x.eg)
def aeZ (m:Int) (x:aE):List aA×List aK×List aI×List aL:=(Eb db FQ m x.aF,Eb dN Ja (m+gI db x.aF) x.bZ,Eb du FR (m+gI db x.aF+gI dN x.bZ) x.aT,Eb eQ Jb (m+gI db x.aF+gI dN x.bZ+gI du x.aT) x.bN)
theorem RC {k:Nat} {m:Int} {x:aH} (hk:4194304*4≤k) (h:x.sd) (h0:0≤m) (hm:m≤2000000000000000000):
  kF k m x.bS x.ib x.eg=some (m+abX x,ahl m x):=by
 have h1:=YN h.1
 have h2:=abV h.2.1
 have h3:=abW h.2.2
 unfold kF abX ahl
 rw [EH (by omega) h.1 h0 (by omega)]
 simp only [Option.bind_some]
 rw [FT (by omega) h.2.1 (by omega) (by omega)]
 simp only [Option.bind_some]
 rw [FU (by omega) h.2.2 (by omega) (by omega)]
 simp only [Option.bind_some,dg,oR,uK,Int.add_assoc]
theorem OV {k:Nat} {m n1 n2 n3:Int} {x:aE} (hk:4194304*3≤k) (h:x.sd) (h0:0≤m) (hm:m≤4000000000000000000):
  jl k n1 n2 n3 m x.aF x.bZ x.aT x.bN=some (m+Vr x,aeZ m x):=by
 have h1:=Vp h.2.2.2.1
 have h2:=YO h.2.2.2.2.1
 have h3:=Vq h.2.2.2.2.2.1
 have h4:=YP h.2.2.2.2.2.2
 unfold jl Vr aeZ
 rw [Dh (by omega) h.2.2.2.1 h0 (by omega)]
 simp only [Option.bind_some]
 rw [EI (by omega) h.2.2.2.2.1 (by omega) (by omega)]
 simp only [Option.bind_some]
 rw [Di (by omega) h.2.2.2.2.2.1 (by omega) (by omega)]
 simp only [Option.bind_some]
 rw [EJ (by omega) h.2.2.2.2.2.2 (by omega) (by omega)]
 simp only [Option.bind_some,dg,oR,uK,Int.add_assoc]
def It {S:Type} (f:S→Nat→S):Nat→Nat→S→S
 | 0,_,s=>s
 | m+1,i,s=>It f m (i+1) (f s i)
theorem GZ {S:Type} {f:S→Nat→S} {I:S→Prop} (h:∀ s i,I s→I (f s i)):∀ m i s,I s→I (It f m i s)
 | 0,_,_,h0=>h0
 | m+1,i,s,h0=>GZ h m (i+1) _ (h s i h0)
theorem zC {S R:Type} {f:S→Nat→S} {n B:Nat} {l:Nat→S→Int→R} {J:S→R} (I:Nat→S→Prop) (he:∀ k s,I n s→l (k+1) s (n:Int)=J s)
  (h:∀ k i s,i < n→B≤k→I i s→l (k+1) s (i:Int)=l k (f s i) ((i+1:Nat):Int)∧I (i+1) (f s i)):∀ m i k s,i+m=n→B+m+1≤k→I i s→l k s (i:Int)=J (It f m i s)∧I n (It f m i s)
 | 0,i,k,s,h1,h2,h3=>by
  obtain rfl:i=n:=by omega
  obtain ⟨k,rfl⟩:∃ j,k=j+1:=⟨k-1,by omega⟩
  exact ⟨he k s h3,h3⟩
 | m+1,i,k,s,h1,h2,h3=>by
  obtain ⟨k,rfl⟩:∃ j,k=j+1:=⟨k-1,by omega⟩
  obtain ⟨h4,h5⟩:=h k i s (by omega) (by omega) h3
  rw [h4]
  exact zC I he h m (i+1) k _ (by omega) (by omega) h5
def jH (S:List Bool) (i:Nat):Bool:=S.getD i false
def rI (T S:List Bool):Prop:=∀ i,jH T i=true→jH S i=true
theorem s8 (S:List Bool):rI S S:=fun _ h=>h
theorem rI.trans {T S U:List Bool} (h:rI T S) (h':rI S U):rI T U:=fun i hi=>h' i (h i hi)
theorem nX {S:List Bool} {i:Nat} (h:jH S i=true):i < S.length:=by
 refine Nat.lt_of_not_le fun hn=>?_
 unfold jH at h
 simp [List.getD,List.getElem?_eq_none hn] at h
theorem sW {S:List Bool} {i:Nat} (h:i < S.length):jH S i=S[i]:=by simp [jH,h]
theorem jB {S:List Bool} {i j:Nat} {b:Bool} (hi:i < S.length):jH (S.set i b) j=cond (i==j) b (jH S j):=by
 unfold jH
 simp only [List.getD_eq_getElem?_getD,List.getElem?_set]
 by_cases e:i=j
 ·subst e;simp [hi]
 ·have:(i==j)=false:=by simpa using e
  simp [e,this]
theorem Dj {S T:List Bool} (hl:S.length=T.length) (h:rI S T) (h':rI T S):S=T:=by
 refine List.ext_getElem hl fun i h1 h2=>?_
 have a:=h i
 have b:=h' i
 rw [sW h1,sW h2] at a b
 cases hs:S[i]<;>cases ht:T[i]<;>simp_all
theorem YQ {S:List Bool} {i:Nat}:rI (S.set i false) S:=fun j hj=>by
 by_cases hi:i < S.length
 ·rw [jB hi] at hj
  cases h:i==j with
  | true=>rw [h] at hj;cases hj
  | false=>rw [h] at hj;exact hj
 ·rwa [List.set_eq_of_length_le (by omega)] at hj
theorem R7 {S:List Bool} {i:Nat} (h:jH S i=true):(S.set i false).count true < S.count true:=by
 have hi:=nX h
 rw [sW hi] at h
 rw [List.count_set hi]
 have:0 < S.count true:=List.count_pos_iff.2 (h▸List.getElem_mem hi)
 simp [h];omega
def stepG (bad:List Bool→Nat→Bool) (q:Bool×List Bool) (i:Nat):Bool×List Bool:=cond (jH q.2 i&&bad q.2 i) (true,q.2.set i false) q
def aaj (bad:List Bool→Nat→Bool):Prop:=∀ T S i,rI T S→bad T i=false→bad S i=false
def Good (bad:List Bool→Nat→Bool) (T:List Bool):Prop:=∀ i,jH T i=true→bad T i=false
structure s9 (bad:List Bool→Nat→Bool) (S Z:List Bool):Prop where
 le:rI Z S
 len:Z.length=S.length
 Bt:Good bad Z
 top:∀ T,Good bad T→rI T S→rI T Z
variable {bad:List Bool→Nat→Bool}
theorem A5 (q:Bool×List Bool) (i:Nat):(stepG bad q i=q∧(jH q.2 i=true→bad q.2 i=false))∨(jH q.2 i=true∧bad q.2 i=true∧stepG bad q i=(true,q.2.set i false)):=by
 unfold stepG
 cases h1:jH q.2 i<;>cases h2:bad q.2 i<;>simp
theorem G0 (m i:Nat) (q:Bool×List Bool):rI (It (stepG bad) m i q).2 q.2∧(It (stepG bad) m i q).2.length=q.2.length:=
 GZ (I:=fun p=>rI p.2 q.2∧p.2.length=q.2.length) (fun s i h=>by
  rcases A5 (bad:=bad) s i with ⟨e,_⟩ | ⟨_,_,e⟩<;>rw [e]
  ·exact h
  ·exact ⟨YQ.trans h.1,by simp [h.2]⟩) m i q ⟨s8 _,rfl⟩
theorem aak (ha:aaj bad) {T:List Bool} (hT:Good bad T) (m i:Nat) (q:Bool×List Bool) (h:rI T q.2):rI T (It (stepG bad) m i q).2:=
 GZ (I:=fun p=>rI T p.2) (fun s i h=>by
  rcases A5 (bad:=bad) s i with ⟨e,_⟩ | ⟨h1,h2,e⟩<;>rw [e]
  ·exact h
  ·intro j hj
   rw [jB (nX h1)]
   cases e:i==j with
   | false=>exact h j hj
   | true=>
    have e:i=j:=by simpa using e
    subst e
    exact absurd (ha T s.2 i h (hT i hj)) (by simp [h2])) m i q h
theorem Mj:∀ (m i:Nat) (q:Bool×List Bool),q.1=true→(It (stepG bad) m i q).1=true∧(It (stepG bad) m i q).2.count true≤q.2.count true
 | 0,_,_,h=>⟨h,Nat.le_refl _⟩
 | m+1,i,q,h=>by
  simp only [It]
  rcases A5 (bad:=bad) q i with ⟨e,_⟩ | ⟨h1,_,e⟩<;>rw [e]
  ·exact Mj m (i+1) q h
  ·have h3:=Mj m (i+1) (true,q.2.set i false) rfl
   exact ⟨h3.1,Nat.le_trans h3.2 (Nat.le_of_lt (R7 h1))⟩
theorem Dk:∀ (m i:Nat) (S:List Bool),(It (stepG bad) m i (false,S)=(false,S)∧∀ j,i≤j→j < i+m→jH S j=true→bad S j=false)∨
  ((It (stepG bad) m i (false,S)).1=true∧(It (stepG bad) m i (false,S)).2.count true < S.count true)
 | 0,i,S=>.inl ⟨rfl,fun j _ _=>by omega⟩
 | m+1,i,S=>by
  simp only [It]
  rcases A5 (bad:=bad) (false,S) i with ⟨e,h⟩ | ⟨h1,_,e⟩<;>rw [e]
  ·rcases Dk m (i+1) S with ⟨a,b⟩ | a
   ·refine .inl ⟨a,fun j h1 h2=>?_⟩
    rcases Nat.eq_or_lt_of_le h1 with rfl | h3
    ·exact h
    ·exact b j (by omega) (by omega)
   ·exact .inr a
  ·have h3:=Mj (bad:=bad) m (i+1) (true,S.set i false) rfl
   exact .inr ⟨h3.1,Nat.lt_of_le_of_lt h3.2 (R7 h1)⟩
def pa (bad:List Bool→Nat→Bool) (n:Nat) (S:List Bool):Bool×List Bool:=It (stepG bad) n 0 (false,S)
def rep {α:Type} (f:α→α):Nat→α→α
 | 0,a=>a
 | p+1,a=>rep f p (f a)
theorem KD {α:Type} {f:α→α} {a:α} (h:f a=a):∀ p,rep f p a=a
 | 0=>rfl
 | p+1=>by simp only [rep,h];exact KD h p
theorem Px {n:Nat} {S:List Bool} (hl:S.length=n) (h:pa bad n S=(false,S)) (h':∀ j,j < n→jH S j=true→bad S j=false):s9 bad S S:=
 ⟨s8 _,rfl,fun i hi=>h' i (hl▸nX hi) hi,fun _ _ h=>h⟩
theorem Py (ha:aaj bad) {n:Nat} {S Z:List Bool} (h:s9 bad (pa bad n S).2 Z):s9 bad S Z:=
 ⟨h.le.trans (G0 n 0 (false,S)).1,h.len.trans (G0 n 0 (false,S)).2,h.Bt,fun T hT hle=>h.top T hT (aak ha hT n 0 (false,S) hle)⟩
theorem R8 (ha:aaj bad) {n:Nat}:∀ (p:Nat) (S:List Bool),S.length=n→S.count true < p→s9 bad S (rep (fun S=>(pa bad n S).2) p S)
 | 0,_,_,h=>absurd h (by omega)
 | p+1,S,hl,h=>by
  rcases Dk (bad:=bad) n 0 S with ⟨a,b⟩ | ⟨_,b⟩
  ·have e:rep (fun S=>(pa bad n S).2) (p+1) S=S:=KD (by simp only [pa,a]) _
   rw [e]
   exact Px hl a fun j hj=>b j (by omega) (by omega)
  ·exact Py ha (R8 ha p _ ((G0 n 0 (false,S)).2.trans hl) (by simp only [pa];omega))
def whl (bad:List Bool→Nat→Bool) (n:Nat):Nat→List Bool→List Bool
 | 0,S=>S
 | f+1,S=>cond (pa bad n S).1 (whl bad n f (pa bad n S).2) (pa bad n S).2
theorem Mk (ha:aaj bad) {n:Nat}:∀ (f:Nat) (S:List Bool),S.length=n→S.count true < f→s9 bad S (whl bad n f S)
 | 0,_,_,h=>absurd h (by omega)
 | f+1,S,hl,h=>by
  simp only [whl]
  rcases Dk (bad:=bad) n 0 S with ⟨a,b⟩ | ⟨a,b⟩
  ·have e:pa bad n S=(false,S):=a
   rw [e]
   exact Px hl a fun j hj=>b j (by omega) (by omega)
  ·have e:(pa bad n S).1=true:=a
   rw [e]
   exact Py ha (Mk ha f _ ((G0 n 0 (false,S)).2.trans hl) (by simp only [pa];omega))
theorem Xt {afJ:List Bool→Nat→Bool} {S S' Z Z':List Bool} (hl:S.length=S'.length) (h:s9 bad S Z) (h':s9 afJ S' Z') (h1:∀ T,Good bad T→rI T S→Good afJ T∧rI T S') (h2:∀ T,Good afJ T→rI T S'→Good bad T∧rI T S):Z=Z':=by
 obtain ⟨a,b⟩:=h1 Z h.Bt h.le
 obtain ⟨c,d⟩:=h2 Z' h'.Bt h'.le
 exact Dj (by rw [h.len,h'.len,hl]) (h'.top Z a b) (h.top Z' c d)
structure lg (m:List aW) (S:List Bool):Prop where
 nodup:(m.map aW.Key).Nodup
 val:∀ p,p∈m→p.El=1∧∃ i:Nat,p.Key=(i:Int)∧jH S i=true
 key:∀ i:Nat,jH S i=true→∃ p,p∈m∧p.Key=(i:Int)
def look (i:Int) (m:List aW):Int:=ja (fun p:aW=>bL i p.Key) (fun p:aW=>p.El) (0:Int) m
theorem KE {a b:Int}:bL a b=true↔a=b:=by simp [bL]
theorem Vs {m:List aW} {S:List Bool} (h:lg m S) (i:Nat):look (i:Int) m=cond (jH S i) 1 0:=by
 unfold look ja
 cases hf:m.find? fun p=>bL (i:Int) p.Key with
 | some p=>
  have h1:=List.find?_some hf
  have h2:=h.val p (List.mem_of_find?_eq_some hf)
  obtain ⟨j,h3,h4⟩:=h2.2
  have e:(i:Int)=p.Key:=KE.1 h1
  obtain rfl:i=j:=by omega
  rw [h4];exact h2.1
 | none=>
  cases hs:jH S i with
  | false=>rfl
  | true=>
   obtain ⟨p,h1,h2⟩:=h.key i hs
   have:=List.find?_eq_none.1 hf p h1
   exact absurd (KE.2 h2.symm) this
theorem YR {m:List aW} {S:List Bool} (h:lg m S) {i:Nat} (hi:i < S.length) (h0:jH S i=false):lg (lb (fun p:aW=>bL (i:Int) p.Key) m ⟨(i:Int),1⟩) (S.set i true):=by
 have hno:∀ p,p∈m→p.Key≠(i:Int):=fun p hp e=>by
  obtain ⟨j,h3,h4⟩:=(h.val p hp).2
  obtain rfl:i=j:=by omega
  rw [h0] at h4;cases h4
 have e:m.findIdx? (fun p:aW=>bL (i:Int) p.Key)=none:=List.findIdx?_eq_none_iff.2 fun p hp=>by
  cases hq:bL (i:Int) p.Key with
  | false=>rfl
  | true=>exact absurd (KE.1 hq).symm (hno p hp)
 unfold lb
 rw [e]
 refine ⟨?_,fun p hp=>?_,fun j hj=>?_⟩
 ·rw [List.map_append,List.nodup_append]
  refine ⟨h.nodup,by simp,fun a ha b hb=>?_⟩
  obtain ⟨p,hp,rfl⟩:=List.mem_map.1 ha
  simp only [List.map_cons,List.map_nil,List.mem_singleton] at hb
  subst hb
  exact hno p hp
 ·rcases List.mem_append.1 hp with hp | hp
  ·obtain ⟨h1,j,h2,h3⟩:=h.val p hp
   exact ⟨h1,j,h2,by rw [jB hi];cases i==j with
    | true=>rfl
    | false=>exact h3⟩
  ·simp only [List.mem_singleton] at hp
   subst hp
   exact ⟨rfl,i,rfl,by rw [jB hi];simp⟩
 ·rw [jB hi] at hj
  cases e:i==j with
  | true=>
   have e:i=j:=by simpa using e
   subst e
   exact ⟨⟨(i:Int),1⟩,by simp,rfl⟩
  | false=>
   rw [e] at hj
   obtain ⟨p,h1,h2⟩:=h.key j hj
   exact ⟨p,by simp [h1],h2⟩
theorem Nu {α:Type} {p:α→Bool}:∀ {l:List α},(∀ a b,a∈l→b∈l→p a=true→p b=true→a=b)→l.Nodup→LI p l=l.filter fun a=>!p a
 | [],_,_=>rfl
 | a::l,h,hn=>by
  obtain ⟨hn1,hn2⟩:=List.nodup_cons.1 hn
  unfold LI
  rw [List.findIdx?_cons]
  cases hp:p a with
  | true=>
   simp only [if_true,List.eraseIdx_cons_zero,List.filter_cons,hp,Bool.not_true]
   refine (List.filter_eq_self.2 fun b hb=>?_).symm
   cases EY:p b with
   | false=>rfl
   | true=>exact absurd (h a b (by simp) (by simp [hb]) hp EY▸hb) hn1
  | false=>
   have ih:=Nu (p:=p) (l:=l) (fun a b ha hb=>h a b (by simp [ha]) (by simp [hb])) hn2
   unfold LI at ih
   simp only [List.filter_cons,hp,Bool.not_false,if_true]
   rw [← ih]
   cases hq:l.findIdx? p with
   | none=>simp
   | some j=>simp
theorem SX {m:List aW} {S:List Bool} (h:lg m S) (i:Nat):lg (LI (fun p:aW=>bL (i:Int) p.Key) m) (S.set i false):=by
 have hm:m.Nodup:=List.Pairwise.of_map aW.Key (fun a b (h:a.Key≠b.Key) e=>h (e▸rfl)) h.nodup
 have Ml:∀ a b,a∈m→b∈m→bL (i:Int) a.Key=true→bL (i:Int) b.Key=true→a=b:=fun a b ha hb h1 h2=>by
  have h3:=(h.val a ha).1
  have h4:=(h.val b hb).1
  have h5:=KE.1 h1
  have h6:=KE.1 h2
  cases a;cases b
  simp_all
 rw [Nu Ml hm]
 refine ⟨(List.filter_sublist.map _).nodup h.nodup,fun p hp=>?_,fun j hj=>?_⟩
 ·obtain ⟨h1,h2⟩:=List.mem_filter.1 hp
  obtain ⟨h3,j,h4,h5⟩:=h.val p h1
  refine ⟨h3,j,h4,?_⟩
  have pw:i≠j:=fun e=>by subst e;rw [h4] at h2;simp [bL] at h2
  by_cases hi:i < S.length
  ·rw [jB hi,show (i==j)=false by simpa using pw];exact h5
  ·rwa [List.set_eq_of_length_le (by omega)]
 ·have R9:=YQ j hj
  obtain ⟨p,h1,h2⟩:=h.key j R9
  refine ⟨p,List.mem_filter.2 ⟨h1,?_⟩,h2⟩
  have:i≠j:=fun e=>by
   subst e
   rw [jB (nX R9)] at hj
   simp at hj
  rw [h2]
  simp [bL];omega
theorem SW {S:List Bool} (h:∀ i,jH S i=false):lg [] S:=⟨by simp,fun p hp=>by simp at hp,fun i hi=>by rw [h i] at hi;cases hi⟩
theorem pV {C A R:Type} {f:A→Nat→A} {n B:Nat} {l:Nat→C→Int→R} {J:C→R} (I:Nat→C→A→Prop) (he:∀ k c a,I n c a→l (k+1) c (n:Int)=J c)
  (h:∀ k i c a,i < n→B≤k→I i c a→∃ c',l (k+1) c (i:Int)=l k c' ((i+1:Nat):Int)∧I (i+1) c' (f a i)):∀ m i k c a,i+m=n→B+m+1≤k→I i c a→∃ c',l k c (i:Int)=J c'∧I n c' (It f m i a)
 | 0,i,k,c,a,h1,h2,h3=>by
  obtain rfl:i=n:=by omega
  obtain ⟨k,rfl⟩:∃ j,k=j+1:=⟨k-1,by omega⟩
  exact ⟨c,he k c a h3,h3⟩
 | m+1,i,k,c,a,h1,h2,h3=>by
  obtain ⟨k,rfl⟩:∃ j,k=j+1:=⟨k-1,by omega⟩
  obtain ⟨c',h4,h5⟩:=h k i c a (by omega) (by omega) h3
  rw [h4]
  exact pV I he h m (i+1) k c' _ (by omega) (by omega) h5
def ob (b:aE) (i:Nat):aA:=nth (default:aA) b.aF (i:Int)
theorem ahm {b:aE} (hb:gW aA.sd b.aF) {i:Nat} (hi:i < b.aF.length):(ob b i).sd:=by unfold ob;rw [bR hi];exact hb.2 _ (dG hi)
theorem ae0 {k:Nat} {w:aH} {b:aE} {i j:Nat} {role:Int} (hk:4194304*2≤k) (hw:w.bS.length≤1048576) (hb:gW aA.sd b.aF) (hi:i < b.aF.length) (hj:j < b.aF.length):
  lI k w b (i:Int) (j:Int) role=some (s7 w (ob b i) (ob b j) role):=by
 unfold ob
 rw [aah hk hw hi hj (Of (hb.2 _ (dG hi))).1,bR hi,bR hj]
theorem ae1 {k:Nat} {w:aH} {b:aE} {i j:Nat} {role:Int} (hk:4194304≤k) (hw:w.bS.length≤1048576) (hb:gW aA.sd b.aF) (hi:i < b.aF.length):
  ly k w (nth (default:aA) b.aF (i:Int)) (nth (default:aA) b.aF (j:Int)) role=some (s7 w (ob b i) (ob b j) role):=aai hk hw (Of (ahm hb hi)).1
theorem Tw {S:List Bool} {i:Nat}:nth false S (i:Int)=jH S i:=rfl
def aal (w:aH) (b:aE) (k i:Nat):Bool:=s7 w (ob b k) (ob b i) 1||s7 w (ob b k) (ob b i) 3
def wo (w:aH) (b:aE) (S:List Bool) (i:Nat):Bool:=(List.range b.aF.length).any fun k=>!jH S k&&aal w b k i
def wj (b:aE) (i:Nat):Bool:=bO (0:Int) ((ob b i).bX.length:Int)
def KF (w:aH) (b:aE) (S:List Bool) (i:Nat):Bool:=wj b i||wo w b S i
theorem Mm {w:aH} {b:aE}:aaj (wo w b):=fun T S i hle h=>by
 unfold wo at h ⊢
 rw [List.any_eq_false] at h ⊢
 intro k hk
 have:=h k hk
 have h2:=hle k
 cases ht:jH T k with
 | true=>simp [h2 ht]
 | false=>rw [ht] at this;cases jH S k<;>simp_all
theorem aam {w:aH} {b:aE}:aaj (KF w b):=fun T S i hle h=>by
 unfold KF at h ⊢
 rw [Bool.or_eq_false_iff] at h ⊢
 exact ⟨h.1,Mm T S i hle h.2⟩
theorem YS {n i:Nat} (h:i < (List.range n).length):(List.range n)[i]=i:=List.getElem_range h
theorem Vt {k:Nat} {w:aH} {b:aE} {S:List Bool} {i:Nat} (hk:4194304*4≤k) (hw:w.bS.length≤1048576) (hb:gW aA.sd b.aF) (hi:i < b.aF.length) (hS:S.length=b.aF.length):
  ya k w b S (i:Int)=some (wo w b S i):=by
 unfold ya wo
 have EX:=hb.1
 have h:=zF (R:=Option Bool) (x:=List.range b.aF.length) (p:=fun k=>!jH S k&&aal w b k i) (B:=4194304*2) (l:=fun k j=>iter (ts:=y_) (R:=Bool) k (qm (some false)) S (i:Int) w b j) (E:=some false) (O:=some true)
  (fun k=>by simp only [List.length_range,iter,qm,cf,cond_false]<;>rfl)
  (fun k j ko EY=>by
   have hj:j < b.aF.length:=by simpa using ko
   simp only [iter,qm,share,b6 hj,cond_true,bF (show j < S.length by omega),bK,bH EX hj,Tw,ae0 EY hw hb hj hi,Option.bind_some,YS,aal]
   cases jH S j with
   | true=>rfl
   | false=>cases s7 w (ob b j) (ob b i) 1<;>cases s7 w (ob b j) (ob b i) 3<;>rfl) k (by simp;omega)
 simp only [share]
 refine h.trans ?_
 cases (List.range b.aF.length).any fun k=>!jH S k&&aal w b k i<;>rfl
theorem Tx {α:Type} {f:α→α}:∀ (m i:Nat) (s:α),It (fun s _=>f s) m i s=rep f m s
 | 0,_,_=>rfl
 | m+1,i,s=>by simp only [It,rep];exact Tx m (i+1) _
def C7 (w:aH) (b:aE) (S:List Bool):List Bool:=rep (fun S=>(pa (KF w b) b.aF.length S).2) (b.aF.length+1) S
theorem YT {bad:List Bool→Nat→Bool} {q:Bool×List Bool} {i:Nat}:(stepG bad q i).2=cond (jH q.2 i&&bad q.2 i) (q.2.set i false) q.2:=by
 unfold stepG
 cases jH q.2 i&&bad q.2 i<;>rfl
theorem YU {α:Type} {S:List α} {i:Nat} {x:α}:gK S (i:Int) x=S.set i x:=rfl
theorem Xu {k:Nat} {w:aH} {b:aE} {S:List Bool} {n:Int} (J:aH→aE→Int→List Bool→Option (List Bool)) (hk:4194304*6≤k) (hw:w.bS.length≤1048576) (hb:gW aA.sd b.aF) (hS:S.length=b.aF.length):
  iter (ts:=mS) (R:=List Bool) k (il J) w b n (0:Int) S=J w b n (pa (KF w b) b.aF.length S).2:=by
 have EX:=hb.1
 obtain ⟨c',h1,h2,h3⟩:=pV (R:=Option (List Bool)) (C:=List Bool) (A:=Bool×List Bool) (f:=stepG (KF w b)) (n:=b.aF.length) (B:=4194304*4) (l:=fun k c i=>iter (ts:=mS) (R:=List Bool) k (il J) w b n i c) (J:=fun c=>J w b n c)
  (fun i c a=>a.2=c∧c.length=b.aF.length)
  (fun k c a h=>by simp only [iter,il,h.2,cf,cond_false]<;>rfl)
  (fun k i c a hi EY hI=>by
   obtain ⟨hc,hl⟩:=hI
   have c9:i < c.length:=by omega
   refine ⟨(stepG (KF w b) a i).2,?_,rfl,?_⟩
   ·rw [YT,hc]
    have e:nth (default:aA) b.aF (i:Int)=ob b i:=rfl
    simp only [iter,il,share,b6 c9,bF c9,bF hi,cond_true,bK,Tw,bH EX hi,e,Vt EY hw hb hi hl,Option.bind_some,YU,KF,wj]
    cases jH c i with
    | false=>rfl
    | true=>
     cases bO (0:Int) ((ob b i).bX.length:Int) with
     | true=>rfl
     | false=>cases wo w b c i<;>rfl
   ·rw [YT,hc]
    cases jH c i&&KF w b c i<;>simp [hl]) b.aF.length 0 k S (false,S) (by omega) (by omega) ⟨rfl,hS⟩
 rw [← h2] at h1
 exact h1
theorem ahn {i n:Nat} (h:i≤n):ck (i:Int) (n:Int)=true:=by simp [ck];omega
theorem aho {n:Nat}:ck ((n+1:Nat):Int) (n:Int)=false:=by simp [ck];omega
theorem FH {k:Nat} {w:aH} {b:aE} {S:List Bool} (hk:4194304*8≤k) (hw:w.bS.length≤1048576) (hb:gW aA.sd b.aF) (hS:S.length=b.aF.length):mm k w b S=some (C7 w b S):=by
 unfold mm C7
 have EX:=hb.1
 rw [pt (by simp;omega) (by omega),← Tx (f:=fun S=>(pa (KF w b) b.aF.length S).2) _ 0]
 have h:=zC (R:=Option (List Bool)) (S:=List Bool) (f:=fun S _=>(pa (KF w b) b.aF.length S).2) (n:=b.aF.length+1) (B:=4194304*6) (l:=fun k c i=>iter (ts:=ua) (R:=List Bool) k (lT fun v=>some v) w b i c) (J:=some)
  (fun _ c=>c.length=b.aF.length)
  (fun k c h=>by simp only [iter,lT,h,aho,cond_false]<;>rfl)
  (fun k i c hi EY hc=>by
   refine ⟨?_,(G0 b.aF.length 0 (false,c)).2.trans hc⟩
   simp only [iter,lT,share,hc,ahn (show i≤b.aF.length by omega),cond_true]
   refine (Xu _ EY hw hb hc).trans ?_
   rw [sY (by omega) (by omega)]
   rfl) (b.aF.length+1) 0 k S (by omega) (by omega) hS
 exact h.1
def zB (b:aE):List Bool:=b.aF.map aA.Ending
theorem WX {b:aE} {i:Nat} (hi:i < b.aF.length):ob b i=b.aF[i]:=bR hi
theorem S3 {k:Nat} {b:aE} (hk:4194304≤k) (hb:b.aF.length≤1048576):ve k b=some (zB b):=by
 unfold ve zB
 obtain ⟨h1,h2⟩:=zC (R:=Option (List Bool)) (S:=List Bool) (f:=fun s i=>s++[(ob b i).Ending]) (n:=b.aF.length) (B:=0) (l:=fun k c i=>iter (ts:=xJ) (R:=List Bool) k (oH fun v=>some v) b i c) (J:=some)
  (fun i s=>s=(b.aF.take i).map aA.Ending)
  (fun k s _=>by simp only [iter,oH,cf,cond_false]<;>rfl)
  (fun k i s hi _ hs=>by
   refine ⟨?_,?_⟩
   ·have hl:s.length≤1048576:=by rw [hs];simp;omega
    simp only [iter,oH,b6 hi,cond_true,bF hi,bK,bH hb hi]
    rw [pt (by simp;omega) (by omega)]
    rfl
   ·rw [hs,WX hi,List.take_succ_eq_append_getElem hi,List.map_append];rfl) b.aF.length 0 k [] (by omega) (by omega) (by simp)
 rw [List.take_length] at h2
 rw [h2] at h1
 exact h1
theorem Ko {k:Nat} {S:List Bool} (hk:4194304≤k) (hS:S.length≤1048576):pH k S=some (idxs id S 0):=by
 unfold pH
 simp only [share]
 exact Mg (R:=Option (List Int)) (x:=S) (p:=id) (B:=0) (l:=fun k s i=>iter (ts:=xK) (R:=List Int) k (oI fun v=>some v) S i s) (J:=some)
  (fun k s=>by simp only [iter,oI,cf,cond_false]<;>rfl)
  (fun k i s hi _ hs=>by
   simp only [iter,oI,share,b6 hi,cond_true,bF hi,bK,bH hS hi,bR hi,id_eq]
   rw [pt (show s.length+[(i:Int)].length≤16777216 by simp;omega) (show 8≤100000 by omega)]
   cases S[i]<;>rfl) k (by omega)
theorem Tz {m:List aW} {S:List Bool} (h:lg m S) {i:Nat} (hi:i < S.length):bO (0:Int) (ja (fun p:aW=>bL (i:Int) p.Key) (fun p:aW=>p.El) (0:Int) m)=S[i]:=by
 have e:=Vs h i
 unfold look at e
 rw [e,sW hi]
 cases S[i]<;>rfl
theorem TB {m:List aW} {S:List Bool} (h:lg m S) (i:Nat):bL (ja (fun p:aW=>bL (i:Int) p.Key) (fun p:aW=>p.El) (0:Int) m) (0:Int)=!jH S i:=by
 have e:=Vs h i
 unfold look at e
 rw [e]
 cases jH S i<;>rfl
theorem Kr {k:Nat} {b:aE} {m:List aW} {S:List Bool} (hk:4194304≤k) (hb:b.aF.length≤1048576) (h:lg m S) (hS:S.length=b.aF.length):lj k b m=some (idxs id S 0,m):=by
 unfold lj
 simp only [share]
 rw [← hS] at hb ⊢
 exact Mg (x:=S) (p:=id) (B:=0) (l:=fun k s i=>iter (ts:=Ai) (R:=(List Int)×(List aW)) k (rR fun v17 v18=>some (v18,v17)) (S.length:Int) i m s) (J:=fun s=>some (s,m))
  (fun k s=>by simp only [iter,rR,cf,cond_false]<;>rfl)
  (fun k i s hi _ hs=>by
   simp only [iter,rR,share,b6 hi,cond_true,bH hb hi,Tz h hi,id_eq]
   rw [pt (show s.length+[(i:Int)].length≤16777216 by simp;omega) (show 8≤100000 by omega)]
   cases S[i]<;>rfl) k (by omega)
theorem Iu {k:Nat} {b:aE} {m:List aW} {S:List Bool} (hk:4194304≤k) (hb:b.aF.length≤1048576) (h:lg m S) (hS:S.length=b.aF.length):g0 k b m=some (m,idxs id S 0):=by
 unfold g0
 simp only [share]
 rw [← hS] at hb ⊢
 exact Mg (x:=S) (p:=id) (B:=0) (l:=fun k s i=>iter (ts:=xa) (R:=(List aW)×(List Int)) k (oi fun v17 v18=>some (v17,v18)) (S.length:Int) i m s) (J:=fun s=>some (m,s))
  (fun k s=>by simp only [iter,oi,cf,cond_false]<;>rfl)
  (fun k i s hi _ hs=>by
   simp only [iter,oi,share,b6 hi,cond_true,bH hb hi,Tz h hi,id_eq]
   rw [pt (show s.length+[(i:Int)].length≤16777216 by simp;omega) (show 8≤100000 by omega)]
   cases S[i]<;>rfl) k (by omega)
theorem aan {k:Nat} {w:aH} {b:aE} {m:List aW} {S:List Bool} {i:Nat} {ag:Bool} {n q:Int} (J:aH→aE→Bool→Int→Int→List aW→Option (List aW)) (hk:4194304*3≤k) (hw:w.bS.length≤1048576) (hb:gW aA.sd b.aF) (hi:i < b.aF.length) (h:lg m S):
  iter (ts:=uk) (R:=List aW) k (pz J) w b ag (i:Int) n q b.aF (b.aF.length:Int) (0:Int) m=cond (wo w b S i) (J w b true n q (LI (fun p:aW=>bL (i:Int) p.Key) m)) (J w b ag n q m):=by
 have EX:=hb.1
 exact zF (x:=List.range b.aF.length) (p:=fun k=>!jH S k&&aal w b k i) (B:=4194304) (l:=fun k j=>iter (ts:=uk) (R:=List aW) k (pz J) w b ag (i:Int) n q b.aF (b.aF.length:Int) j m)
  (fun k=>by simp only [List.length_range,iter,pz,cf,cond_false]<;>rfl)
  (fun k j ko EY=>by
   have hj:j < b.aF.length:=by simpa using ko
   simp only [iter,pz,share,b6 hj,cond_true,bF hj,bF hi,bK,bH EX hj,TB h,ae1 EY hw hb hj,Option.bind_some,YS,aal]
   cases jH S j with
   | true=>rfl
   | false=>cases s7 w (ob b j) (ob b i) 1<;>cases s7 w (ob b j) (ob b i) 3<;>rfl) k (by simp;omega)
theorem Vu {k:Nat} {w:aH} {b:aE} {m:List aW} {S:List Bool} (J:aH→aE→Bool→List aW→Option (List aW)) (hk:4194304*5≤k) (hw:w.bS.length≤1048576) (hb:gW aA.sd b.aF) (h:lg m S) (hS:S.length=b.aF.length):
  ∃ m',iter (ts:=ku) (R:=List aW) k (fB J) w b false (b.aF.length:Int) (0:Int) m=J w b (pa (wo w b) b.aF.length S).1 m'∧lg m' (pa (wo w b) b.aF.length S).2:=by
 have EX:=hb.1
 obtain ⟨c',h1,h2,h3,h4⟩:=pV (C:=Bool×List aW) (A:=Bool×List Bool) (f:=stepG (wo w b)) (n:=b.aF.length) (B:=4194304*3) (l:=fun k c i=>iter (ts:=ku) (R:=List aW) k (fB J) w b c.1 (b.aF.length:Int) i c.2) (J:=fun c=>J w b c.1 c.2)
  (fun i c a=>c.1=a.1∧lg c.2 a.2∧a.2.length=b.aF.length)
  (fun k c a _=>by simp only [iter,fB,cf,cond_false]<;>rfl)
  (fun k i c a hi EY hI=>by
   obtain ⟨ca,cm⟩:=c
   obtain ⟨aa,aS⟩:=a
   obtain ⟨hc,hr,hl⟩:=hI
   simp only at hc hr hl
   subst hc
   have hx:=aan (k:=k) (ag:=ca) (n:=(b.aF.length:Int)) (q:=(i:Int)) (w:=w) (fun (ahp:aH) (ahq:aE) (ahr:Bool) (ahs:Int) (aht:Int) (ahu:List aW)=>iter (ts:=ku) (R:=List aW) k (fB J) ahp ahq ahr ahs (aQ .i64 aht (1:Int)) ahu) EY hw hb hi hr
   simp only [bH EX hi] at hx
   unfold stepG
   cases hs:jH aS i with
   | false=>
    refine ⟨(ca,cm),?_,rfl,hr,hl⟩
    simp only [iter,fB,share,b6 hi,cond_true,TB hr,hs,Bool.not_false,bH EX hi]
    rfl
   | true=>
    cases wq:wo w b aS i with
    | false=>
     rw [wq] at hx
     refine ⟨(ca,cm),?_,rfl,hr,hl⟩
     simp only [iter,fB,share,b6 hi,cond_true,TB hr,hs,Bool.not_true]
     exact hx
    | true=>
     rw [wq] at hx
     refine ⟨(true,LI (fun p:aW=>bL (i:Int) p.Key) cm),?_,rfl,SX hr i,by simp [hl]⟩
     simp only [iter,fB,share,b6 hi,cond_true,TB hr,hs,Bool.not_true]
     exact hx) b.aF.length 0 k (false,m) (false,S) (by omega) (by omega) ⟨rfl,h,hS⟩
 exact ⟨c'.2,h1.trans (by rw [h2];rfl),h3⟩
theorem Nv {w:aH} {b:aE} (hw:w.bS.length≤1048576) (hb:gW aA.sd b.aF):∀ (f k:Nat) (m:List aW) (S:List Bool),S.count true < f→4194304*5+f+1≤k→lg m S→S.length=b.aF.length→
  ∃ m',iter (ts:=kx) (R:=List aW) k (pA fun v=>some v) w b true m=some m'∧lg m' (whl (wo w b) b.aF.length f S)
 | 0,_,_,_,h,_,_,_=>absurd h (by omega)
 | f+1,k,m,S,h,hk,hr,hS=>by
  obtain ⟨k,rfl⟩:∃ j,k=j+1:=⟨k-1,by omega⟩
  obtain ⟨m1,h1,h2⟩:=Vu (fun w b ag m=>iter (ts:=kx) (R:=List aW) k (pA fun v=>some v) w b ag m) (k:=k) (by omega) hw hb hr hS
  have e:iter (ts:=kx) (R:=List aW) (k+1) (pA fun v=>some v) w b true m=iter (ts:=ku) (R:=List aW) k (fB fun w b ag m=>iter (ts:=kx) (R:=List aW) k (pA fun v=>some v) w b ag m) w b false (b.aF.length:Int) (0:Int) m:=rfl
  rw [e,h1]
  simp only [whl]
  rcases Dk (bad:=wo w b) b.aF.length 0 S with ⟨a,_⟩ | ⟨a,c⟩
  ·have e1:(pa (wo w b) b.aF.length S).1=false:=by unfold pa;rw [a]
   rw [e1]
   refine ⟨m1,?_,h2⟩
   obtain ⟨k,rfl⟩:∃ j,k=j+1:=⟨k-1,by omega⟩
   rfl
  ·have e1:(pa (wo w b) b.aF.length S).1=true:=a
   rw [e1]
   exact Nv hw hb f k m1 _ (by simp only [pa];omega) (by omega) h2 ((G0 b.aF.length 0 (false,S)).2.trans hS)
def Mn (w:aH) (b:aE) (S:List Bool):List Bool:=whl (wo w b) b.aF.length (b.aF.length+1) S
theorem Ob {k:Nat} {w:aH} {b:aE} {m:List aW} {S:List Bool} (hk:4194304*6≤k) (hw:w.bS.length≤1048576) (hb:gW aA.sd b.aF) (h:lg m S) (hS:S.length=b.aF.length):
  ∃ m',gp k w b m=some m'∧lg m' (Mn w b S)∧(Mn w b S).length=b.aF.length:=by
 have EX:=hb.1
 have hc:S.count true≤S.length:=List.count_le_length
 obtain ⟨m',h1,h2⟩:=Nv hw hb (b.aF.length+1) k m S (by omega) (by omega) h hS
 exact ⟨m',h1,h2,(Mk Mm _ S hS (by omega)).len.trans hS⟩
theorem Vv {w:aH} {b:aE} {S:List Bool} (hS:S.length=b.aF.length):s9 (wo w b) S (Mn w b S):=
 Mk Mm _ S hS (by have:S.count true≤S.length:=List.count_le_length;omega)
theorem KG {w:aH} {b:aE} {S:List Bool} (hS:S.length=b.aF.length):s9 (KF w b) S (C7 w b S):=
 R8 aam _ S hS (by have:S.count true≤S.length:=List.count_le_length;omega)
theorem R_ {w:aH} {b:aE} {S S':List Bool} (hS:S.length=b.aF.length) (hS':S'.length=b.aF.length) (h:∀ i,i < b.aF.length→jH S' i=(jH S i&&!wj b i)):C7 w b S=Mn w b S':=
 Xt (hS.trans hS'.symm) (KG hS) (Vv hS')
  (fun T hT hle=>⟨fun i hi=>by
   have:=hT i hi
   unfold KF at this
   exact (Bool.or_eq_false_iff.1 this).2,fun i hi=>by
   have h1:=hT i hi
   have h2:=hle i hi
   unfold KF at h1
   rw [h i (hS▸nX h2),h2,(Bool.or_eq_false_iff.1 h1).1];rfl⟩)
  (fun T hT hle=>⟨fun i hi=>by
   have h1:=hT i hi
   have h2:=hle i hi
   have h3:=h i (hS'▸nX h2)
   rw [h2] at h3
   unfold KF
   rw [h1]
   cases hh:wj b i with
   | false=>rfl
   | true=>rw [hh] at h3;simp at h3,fun i hi=>by
   have h2:=hle i hi
   have h3:=h i (hS'▸nX h2)
   rw [h2] at h3
   cases hs:jH S i with
   | true=>rfl
   | false=>rw [hs] at h3;simp at h3⟩)
def Cn (n:Nat) (p:Nat→Bool) (i:Nat):List Bool:=(List.range n).map fun j=>decide (j < i)&&p j
theorem s_ {n:Nat} {p:Nat→Bool} {i:Nat}:(Cn n p i).length=n:=by simp [Cn]
theorem Dl {n:Nat} {p:Nat→Bool} {i j:Nat} (h:j < n):jH (Cn n p i) j=(decide (j < i)&&p j):=by
 rw [sW (by rw [s_];exact h)];simp [Cn]
theorem Sa {n:Nat} {p:Nat→Bool} {i:Nat} (hi:i < n):Cn n p (i+1)=cond (p i) ((Cn n p i).set i true) (Cn n p i):=by
 refine Dj ?_ ?_ ?_
 ·cases p i<;>simp [Cn]
 ·intro j hj
  have hjn:j < n:=by have:=nX hj;rwa [s_] at this
  rw [Dl hjn] at hj
  have h2:=Dl (p:=p) (i:=i) hjn
  cases hp:p i with
  | false=>
   simp only [cond_false]
   rw [h2]
   by_cases e:j=i
   ·subst e;rw [hp] at hj;simp at hj
   ·simp only [Bool.and_eq_true,decide_eq_true_eq] at hj ⊢
    exact ⟨by omega,hj.2⟩
  | true=>
   simp only [cond_true]
   rw [jB (by rw [s_];exact hi),h2]
   by_cases e:i=j
   ·simp [e]
   ·simp only [Bool.and_eq_true,decide_eq_true_eq] at hj
    simp [e,hj.2];omega
 ·intro j hj
  have hjn:j < n:=by
   have:=nX hj
   cases hp:p i<;>rw [hp] at this<;>simpa [Cn] using this
  have h2:=Dl (p:=p) (i:=i) hjn
  rw [Dl hjn]
  cases hp:p i with
  | false=>
   rw [hp] at hj
   simp only [cond_false] at hj
   rw [h2] at hj
   simp only [Bool.and_eq_true,decide_eq_true_eq] at hj ⊢
   exact ⟨by omega,hj.2⟩
  | true=>
   rw [hp] at hj
   simp only [cond_true] at hj
   rw [jB (by rw [s_];exact hi),h2] at hj
   by_cases e:i=j
   ·subst e;simp [hp]
   ·simp only [show (i==j)=false by simpa using e,cond_false,Bool.and_eq_true,decide_eq_true_eq] at hj ⊢
    exact ⟨by omega,hj.2⟩
theorem SV {b:aE} {i:Nat} (hi:i < b.aF.length):jH (zB b) i=(ob b i).Ending:=by
 unfold zB
 rw [sW (by simpa using hi),WX hi,List.getElem_map]
def goP (b:aE) (i:Nat):Bool:=(ob b i).Ending&&bL ((ob b i).bX.length:Int) (0:Int)
theorem abY {b:aE} {i:Nat}:bL ((ob b i).bX.length:Int) (0:Int)=!wj b i:=by
 unfold wj
 cases (ob b i).bX<;>simp [bL,bO];omega
theorem abZ {w:aH} {b:aE}:C7 w b (zB b)=Mn w b (Cn b.aF.length (goP b) b.aF.length):=
 R_ (by simp [zB]) s_ fun i hi=>by
  rw [Dl hi,SV hi]
  unfold goP
  rw [abY]
  simp [hi]
def goL (w:aH) (b:aE):List Int:=idxs id (C7 w b (zB b)) 0
theorem uF {w:aH} {b:aE} {S:List Bool} (hS:S.length=b.aF.length):(C7 w b S).length=b.aF.length:=(KG hS).len.trans hS
theorem sX {b:aE}:(zB b).length=b.aF.length:=by simp [zB]
theorem YV {m:List aW} {n:Nat} {p:Nat→Bool} {i:Nat} (hi:i < n) (h:lg m (Cn n p i)) (hp:p i=true):lg (lb (fun q:aW=>bL (i:Int) q.Key) m ⟨(i:Int),1⟩) (Cn n p (i+1)):=by
 rw [Sa hi,hp]
 exact YR h (by rw [s_];exact hi) (by rw [Dl hi];simp)
theorem Vw {m:List aW} {n:Nat} {p:Nat→Bool} {i:Nat} (hi:i < n) (h:lg m (Cn n p i)) (hp:p i=false):lg m (Cn n p (i+1)):=by
 rw [Sa hi,hp]
 exact h
theorem YW {n:Nat} {p:Nat→Bool}:lg [] (Cn n p 0):=SW fun i=>by
 by_cases h:i < n
 ·rw [Dl h];simp
 ·cases e:jH (Cn n p 0) i with
  | false=>rfl
  | true=>have:=nX e;rw [s_] at this;omega
theorem aao {k:Nat} {w:aH} {b:aE} (J:aH→aE→List aW→Option (List Int)) (hk:4194304≤k) (hb:b.aF.length≤1048576):
  ∃ m,iter (ts:=um) (R:=List Int) k (mF J) w b b.aF (b.aF.length:Int) (0:Int) []=J w b m∧lg m (Cn b.aF.length (goP b) b.aF.length):=by
 obtain ⟨m,h1,h2⟩:=pV (C:=List aW) (A:=Unit) (f:=fun _ _=>()) (n:=b.aF.length) (B:=0) (l:=fun k c i=>iter (ts:=um) (R:=List Int) k (mF J) w b b.aF (b.aF.length:Int) i c) (J:=fun c=>J w b c)
  (fun i c _=>lg c (Cn b.aF.length (goP b) i))
  (fun k c a _=>by simp only [iter,mF,cf,cond_false]<;>rfl)
  (fun k i c a hi _ hr=>by
   have e:nth (default:aA) b.aF (i:Int)=ob b i:=rfl
   cases hp:goP b i with
   | true=>
    refine ⟨_,?_,YV hi hr hp⟩
    unfold goP at hp
    rw [Bool.and_eq_true] at hp
    simp only [iter,mF,share,b6 hi,cond_true,bF hi,bK,bH hb hi,e,hp.1,hp.2]<;>rfl
   | false=>
    refine ⟨c,?_,Vw hi hr hp⟩
    unfold goP at hp
    simp only [iter,mF,share,b6 hi,cond_true,bF hi,bK,bH hb hi,e]
    cases h1:(ob b i).Ending with
    | false=>rfl
    | true=>rw [h1] at hp;simp only [Bool.true_and] at hp;rw [hp];rfl) b.aF.length 0 k [] () (by omega) (by omega) YW
 exact ⟨m,h1,h2⟩
theorem Xv {k:Nat} {w:aH} {b:aE} (J:aH→aE→List aW→Option (List Int)) (hk:4194304≤k) (hb:b.aF.length≤1048576):
  ∃ m,iter (ts:=qD) (R:=List Int) k (iS J) b.aF (b.aF.length:Int) (0:Int) w b []=J w b m∧lg m (Cn b.aF.length (goP b) b.aF.length):=by
 obtain ⟨m,h1,h2⟩:=pV (C:=List aW) (A:=Unit) (f:=fun _ _=>()) (n:=b.aF.length) (B:=0) (l:=fun k c i=>iter (ts:=qD) (R:=List Int) k (iS J) b.aF (b.aF.length:Int) i w b c) (J:=fun c=>J w b c)
  (fun i c _=>lg c (Cn b.aF.length (goP b) i))
  (fun k c a _=>by simp only [iter,iS,cf,cond_false]<;>rfl)
  (fun k i c a hi _ hr=>by
   have e:nth (default:aA) b.aF (i:Int)=ob b i:=rfl
   cases hp:goP b i with
   | true=>
    refine ⟨_,?_,YV hi hr hp⟩
    unfold goP at hp
    rw [Bool.and_eq_true] at hp
    simp only [iter,iS,share,b6 hi,cond_true,bF hi,bK,bH hb hi,e,hp.1,hp.2]<;>rfl
   | false=>
    refine ⟨c,?_,Vw hi hr hp⟩
    unfold goP at hp
    simp only [iter,iS,share,b6 hi,cond_true,bF hi,bK,bH hb hi,e]
    cases h1:(ob b i).Ending with
    | false=>rfl
    | true=>rw [h1] at hp;simp only [Bool.true_and] at hp;rw [hp];rfl) b.aF.length 0 k [] () (by omega) (by omega) YW
 exact ⟨m,h1,h2⟩
theorem adu {k:Nat} {w:aH} {b:aE} (hk:4194304*6≤k) (hw:w.bS.length≤1048576) (hb:gW aA.sd b.aF):CP k w b=some (goL w b):=by
 unfold CP
 simp only [share]
 obtain ⟨m,h1,h2⟩:=aao (k:=k) (w:=w) (b:=b) (fun (v57:aH) (v58:aE) (v59:List aW)=>(gp k v57 v58 v59).bind fun v60=>(lj k v58 v60).bind fun UP=>some UP.1) (by omega) hb.1
 obtain ⟨m',h3,h4,h5⟩:=Ob hk hw hb h2 s_
 refine h1.trans ?_
 rw [h3]
 simp only [Option.bind_some,Kr (show 4194304≤k by omega) hb.1 h4 h5,goL,abZ]
 rfl
theorem abp {k:Nat} {w:aH} {b:aE} (hk:4194304*6≤k) (hw:w.bS.length≤1048576) (hb:gW aA.sd b.aF):x6 k w b=some (goL w b):=by
 unfold x6
 simp only [share]
 obtain ⟨m,h1,h2⟩:=Xv (k:=k) (w:=w) (b:=b) (fun (v57:aH) (v58:aE) (v59:List aW)=>(gp k v57 v58 v59).bind fun v60=>(g0 k v58 v60).bind fun UP=>some UP.2) (by omega) hb.1
 obtain ⟨m',h3,h4,h5⟩:=Ob hk hw hb h2 s_
 refine h1.trans ?_
 rw [h3]
 simp only [Option.bind_some,Iu (show 4194304≤k by omega) hb.1 h4 h5,goL,abZ]
 rfl
theorem Sb {a:Bool} {S:List Bool}:jH (a::S) 0=a:=rfl
theorem Sc {a:Bool} {S:List Bool} {i:Nat}:jH (a::S) (i+1)=jH S i:=by simp [jH]
theorem Jc:∀ {S T:List Bool},S.length=T.length→rI S T→S.count true≤T.count true
 | [],[],_,_=>Nat.le_refl _
 | a::S,c::T,hl,h=>by
  have ih:=Jc (S:=S) (T:=T) (by simpa using hl) fun i hi=>by
   have:=h (i+1)
   rw [Sc,Sc] at this
   exact this hi
  have h0:=h 0
  rw [Sb,Sb] at h0
  cases a<;>cases c<;>simp at h0 ⊢<;>omega
theorem Vx {S:List Bool} {i:Nat} (hi:i < S.length) (h:jH S i=false):(S.set i true).count true=S.count true+1:=by
 rw [sW hi] at h
 rw [List.count_set hi]
 simp [h]
theorem ab0 {S T:List Bool} {i:Nat} (hl:S.length=T.length) (h:rI S T) (h1:jH T i=true) (h2:jH S i=false):S.count true < T.count true:=by
 have hi:i < S.length:=by rw [hl];exact nX h1
 have:=Jc (S:=S.set i true) (T:=T) (by simpa using hl) fun j hj=>by
  rw [jB hi] at hj
  cases e:i==j with
  | true=>
   have e:i=j:=by simpa using e
   subst e;exact h1
  | false=>rw [e] at hj;exact h j hj
 rw [Vx hi h2] at this
 omega
theorem ab1 {S:List Bool} {i:Nat}:rI S (S.set i true):=fun j hj=>by
 by_cases hi:i < S.length
 ·rw [jB hi]
  cases i==j with
  | true=>rfl
  | false=>exact hj
 ·rwa [List.set_eq_of_length_le (by omega)]
theorem ae2 {S C:List Bool} {i:Nat} (h:rI S C) (hi:jH C i=true):rI (S.set i true) C:=fun j hj=>by
 by_cases hl:i < S.length
 ·rw [jB hl] at hj
  cases e:i==j with
  | true=>
   have e:i=j:=by simpa using e
   subst e;exact hi
  | false=>rw [e] at hj;exact h j hj
 ·rw [List.set_eq_of_length_le (by omega)] at hj;exact h j hj
def pv (n:Nat) (own:Nat→Nat→Bool) (S:List Bool):Prop:=∀ i k,i < n→jH S k=true→own i k=true→jH S i=true
structure bP (n:Nat) (own:Nat→Nat→Bool) (E D:List Bool):Prop where
 len:D.length=n
 le:rI E D
 closed:pv n own D
 least:∀ C,pv n own C→rI E C→rI D C
theorem bP.same {n:Nat} {own:Nat→Nat→Bool} {E D D':List Bool} (h:bP n own E D) (h':bP n own E D'):D=D':=
 Dj (h.len.trans h'.len.symm) (h.least D' h'.closed h'.le) (h'.least D h.closed h.le)
theorem Pz {f:List Bool→Nat→List Bool} (hf:∀ s j,rI s (f s j)∧(f s j).length=s.length) (m i:Nat) (s:List Bool):rI s (It f m i s)∧(It f m i s).length=s.length:=
 GZ (I:=fun t=>rI s t∧t.length=s.length) (fun t j h=>⟨h.1.trans (hf t j).1,(hf t j).2.trans h.2⟩) m i s ⟨s8 _,rfl⟩
theorem TC {f:List Bool→Nat→List Bool} (hf:∀ s j,rI s (f s j)∧(f s j).length=s.length):∀ (m i:Nat) (s:List Bool),rI (It f m i s) s→∀ j,i≤j→j < i+m→f s j=s
 | 0,_,_,_,j,h1,h2=>by omega
 | m+1,i,s,h,j,h1,h2=>by
  have e:f s i=s:=Dj (hf s i).2 ((Pz hf m (i+1) (f s i)).1.trans h) (hf s i).1
  rcases Nat.eq_or_lt_of_le h1 with rfl | h3
  ·exact e
  ·simp only [It,e] at h
   exact TC hf m (i+1) s h j (by omega) (by omega)
variable {n:Nat} {own:Nat→Nat→Bool}
def swK (own:Nat→Nat→Bool) (i:Nat) (S:List Bool) (k:Nat):List Bool:=cond (jH S k&&own i k) (S.set i true) S
def swI (n:Nat) (own:Nat→Nat→Bool) (S:List Bool) (i:Nat):List Bool:=It (swK own i) n 0 S
def tb (n:Nat) (own:Nat→Nat→Bool) (S:List Bool):List Bool:=It (swI n own) n 0 S
theorem PA (i:Nat):∀ s j,rI s (swK own i s j)∧(swK own i s j).length=s.length:=fun s j=>by
 unfold swK
 cases jH s j&&own i j with
 | true=>exact ⟨ab1,by simp⟩
 | false=>exact ⟨s8 _,rfl⟩
theorem PB:∀ s j,rI s (swI n own s j)∧(swI n own s j).length=s.length:=fun s j=>Pz (PA j) n 0 s
theorem jN (S:List Bool):rI S (tb n own S)∧(tb n own S).length=S.length:=Pz PB n 0 S
theorem Vy {C S:List Bool} (hC:pv n own C) (hn:C.length≤n) (h:rI S C):rI (tb n own S) C:=by
 have key:∀ m i S,i+m=n→rI S C→rI (It (swI n own) m i S) C:=by
  intro m
  induction m with
  | zero=>intro i S _ h;exact h
  | succ m ih=>
   intro i S hi h
   exact ih (i+1) _ (by omega) (GZ (I:=fun t=>rI t C) (fun t k ht=>by
    unfold swK
    cases hs:jH t k&&own i k with
    | false=>exact ht
    | true=>
     rw [Bool.and_eq_true] at hs
     exact ae2 ht (hC i k (by omega) (ht k hs.1) hs.2)) n 0 S h)
 exact key n 0 S (by omega) h
theorem aap {S:List Bool} (hl:S.length=n) (h:rI (tb n own S) S):tb n own S=S∧pv n own S:=by
 refine ⟨Dj (jN S).2 h (jN S).1,fun i k hi hk ho=>?_⟩
 have e:=TC PB n 0 S h i (by omega) (by omega)
 have e2:=TC (PA i) n 0 S (by unfold swI at e;rw [e];exact s8 _) k (by omega) (by have:=nX hk;omega)
 unfold swK at e2
 rw [hk,ho] at e2
 simp only [Bool.and_self,cond_true] at e2
 rw [← e2,jB (by omega)]
 simp
theorem Vz (p:Nat):∀ S,rI S (rep (tb n own) p S)∧(rep (tb n own) p S).length=S.length:=by
 induction p with
 | zero=>exact fun S=>⟨s8 _,rfl⟩
 | succ p ih=>exact fun S=>⟨(jN S).1.trans (ih _).1,(ih _).2.trans (jN S).2⟩
theorem afK {C:List Bool} (hC:pv n own C) (hn:C.length≤n) (p:Nat):∀ S,rI S C→rI (rep (tb n own) p S) C:=by
 induction p with
 | zero=>exact fun S h=>h
 | succ p ih=>exact fun S h=>ih _ (Vy hC hn h)
theorem PC:∀ (p:Nat) (S:List Bool),S.length=n→n < S.count true+p→pv n own (rep (tb n own) p S)
 | 0,S,hl,h=>by have:S.count true≤S.length:=List.count_le_length;omega
 | p+1,S,hl,h=>by
  by_cases hs:rI (tb n own S) S
  ·obtain ⟨e,hc⟩:=aap hl hs
   rw [KD e];exact hc
  ·have:∃ i,jH (tb n own S) i=true∧jH S i=false:=Classical.byContradiction fun hn=>hs fun i hi=>by
    cases e:jH S i with
    | true=>rfl
    | false=>exact absurd ⟨i,hi,e⟩ hn
   obtain ⟨i,h1,h2⟩:=this
   have h3:=ab0 (jN S).2.symm (jN S).1 h1 h2
   exact PC p _ ((jN S).2.trans hl) (by omega)
theorem TD {S:List Bool} (hl:S.length=n):pv n own (rep (tb n own) n S):=by
 rcases Nat.eq_zero_or_pos (S.count true) with h | h
 ·have hno:∀ i,jH S i=false:=fun i=>by
   cases e:jH S i with
   | false=>rfl
   | true=>
    have hi:=nX e
    rw [sW hi] at e
    have:true∈S:=e▸List.getElem_mem hi
    have:=List.count_pos_iff.2 this
    omega
  have hc:pv n own S:=fun i k _ hk=>by rw [hno k] at hk;cases hk
  rw [KD (Dj (jN S).2 (Vy hc (by omega) (s8 _)) (jN S).1)]
  exact hc
 ·exact PC n S hl (by omega)
theorem M9 {S:List Bool} (hl:S.length=n):(rep (tb n own) n S).length=n∧rI S (rep (tb n own) n S)∧pv n own (rep (tb n own) n S)∧∀ C,pv n own C→C.length≤n→rI S C→rI (rep (tb n own) n S) C:=
 ⟨(Vz n S).2.trans hl,(Vz n S).1,TD hl,fun _ hC hn h=>afK hC hn n S h⟩
def zD (w:aH) (b:aE) (i k:Nat):Bool:=s7 w (ob b i) (ob b k) 3
def UO (w:aH) (b:aE):List Bool:=rep (tb b.aF.length (zD w b)) b.aF.length (zB b)
theorem aaq {k:Nat} {w:aH} {b:aE} {S:List Bool} {n:Int} {i:Nat} (J:aH→aE→Int→Int→List Bool→Option (List Int)) (hk:4194304*3≤k) (hw:w.bS.length≤1048576) (hb:gW aA.sd b.aF) (hi:i < b.aF.length) (hS:S.length=b.aF.length):
  iter (ts:=lH) (R:=List Int) k (gB J) w b n (i:Int) (0:Int) S=J w b n (i:Int) (swI b.aF.length (zD w b) S i):=by
 have EX:=hb.1
 refine (zC (S:=List Bool) (f:=swK (zD w b) i) (n:=b.aF.length) (B:=4194304*2) (l:=fun k c j=>iter (ts:=lH) (R:=List Int) k (gB J) w b n (i:Int) j c) (J:=fun c=>J w b n (i:Int) c)
  (fun _ c=>c.length=b.aF.length)
  (fun k c h=>by simp only [iter,gB,h,cf,cond_false]<;>rfl)
  (fun k j c hj EY hc=>by
   refine ⟨?_,(PA i c j).2.trans hc⟩
   have ko:j < c.length:=by omega
   simp only [iter,gB,share,b6 ko,bF ko,bF (show i < c.length by omega),cond_true,bK,Tw,bH EX hj,ae0 EY hw hb hi hj,Option.bind_some,YU,swK,zD]
   cases jH c j with
   | false=>rfl
   | true=>cases s7 w (ob b i) (ob b j) 3<;>rfl) b.aF.length 0 k S (by omega) (by omega) hS).1
theorem aar {k:Nat} {w:aH} {b:aE} {S:List Bool} {n:Int} (J:aH→aE→Int→List Bool→Option (List Int)) (hk:4194304*5≤k) (hw:w.bS.length≤1048576) (hb:gW aA.sd b.aF) (hS:S.length=b.aF.length):
  iter (ts:=mO) (R:=List Int) k (ij J) w b n (0:Int) S=J w b n (tb b.aF.length (zD w b) S):=by
 have EX:=hb.1
 refine (zC (S:=List Bool) (f:=swI b.aF.length (zD w b)) (n:=b.aF.length) (B:=4194304*3) (l:=fun k c j=>iter (ts:=mO) (R:=List Int) k (ij J) w b n j c) (J:=fun c=>J w b n c)
  (fun _ c=>c.length=b.aF.length)
  (fun k c h=>by simp only [iter,ij,h,cf,cond_false]<;>rfl)
  (fun k j c hj EY hc=>by
   refine ⟨?_,(PB c j).2.trans hc⟩
   simp only [iter,ij,share,b6 (show j < c.length by omega),cond_true]
   refine (aaq _ EY hw hb hj hc).trans ?_
   rw [bH EX hj]) b.aF.length 0 k S (by omega) (by omega) hS).1
theorem W0 {k:Nat} {w:aH} {b:aE} (J:aH→aE→List Bool→Option (List Int)) (hk:4194304*7≤k) (hw:w.bS.length≤1048576) (hb:gW aA.sd b.aF):
  iter (ts:=mP) (R:=List Int) k (ik J) w b (0:Int) (zB b)=J w b (UO w b):=by
 have EX:=hb.1
 have h:=(zC (S:=List Bool) (f:=fun S _=>tb b.aF.length (zD w b) S) (n:=b.aF.length) (B:=4194304*5) (l:=fun k c j=>iter (ts:=mP) (R:=List Int) k (ik J) w b j c) (J:=fun c=>J w b c)
  (fun _ c=>c.length=b.aF.length)
  (fun k c h=>by simp only [iter,ik,h,cf,cond_false]<;>rfl)
  (fun k j c hj EY hc=>by
   refine ⟨?_,(jN c).2.trans hc⟩
   simp only [iter,ik,share,b6 (show j < c.length by omega),cond_true]
   refine (aar _ EY hw hb hc).trans ?_
   rw [bH EX hj]) b.aF.length 0 k (zB b) (by omega) (by omega) sX).1
 rw [Tx] at h
 exact h
structure afL (n:Nat) (own:Nat→Nat→Bool) (S:List Bool) (a:Nat) (S':List Bool):Prop where
 len:S'.length=n
 le:rI S S'
 here:jH S' a=true
 least:∀ C,pv n own C→rI S C→jH C a=true→rI S' C
 next:∀ k,jH S' k=true→jH S k=false→∀ i,i < n→own i k=true→jH S' i=true
theorem WY {w:aH} {b:aE} (hw:w.bS.length≤1048576) (hb:gW aA.sd b.aF):∀ (f k:Nat) (a:Nat) (m:List aW) (S:List Bool),a < b.aF.length→S.length=b.aF.length→lg m S→
  b.aF.length-S.count true < f→4194304+(b.aF.length-S.count true+1)*(b.aF.length+2)≤k→∃ m' S',dk f k (a:Int) b w m=some (b,w,m')∧lg m' S'∧afL b.aF.length (zD w b) S a S'
 | 0,_,_,_,_,_,_,_,h,_=>absurd h (by omega)
 | f+1,k,a,m,S,ha,hS,hr,hf,hk=>by
  have EX:=hb.1
  unfold dk
  rw [Tz hr (show a < S.length by omega),← sW]
  cases hs:jH S a with
  | true=>exact ⟨m,S,rfl,hr,hS,s8 _,hs,fun C _ h _=>h,fun k h1 h2=>by rw [h1] at h2;cases h2⟩
  | false=>
   have hp:=YR hr (i:=a) (by omega) hs
   have hc1:=Vx (S:=S) (i:=a) (by omega) hs
   have h1l:(S.set a true).length=b.aF.length:=by simp [hS]
   have aj2:(S.set a true).count true≤(S.set a true).length:=List.count_le_length
   obtain ⟨m',h1,S',h2,h3,h4,h5,h6,h7⟩:=pV (C:=List aW) (A:=Unit) (f:=fun _ _=>()) (n:=b.aF.length) (B:=4194304+(b.aF.length-S.count true)*(b.aF.length+2))
    (l:=fun k c i=>iter (ts:=q_) (R:=aE×aH×(List aW)) k (dt (dk f)) (a:Int) b.aF (b.aF.length:Int) i b w c) (J:=fun c=>some (b,w,c))
    (fun i c _=>∃ T,lg c T∧T.length=b.aF.length∧rI (S.set a true) T∧(∀ C,pv b.aF.length (zD w b) C→rI S C→jH C a=true→rI T C)∧
     (∀ k,jH T k=true→jH (S.set a true) k=false→∀ i,i < b.aF.length→zD w b i k=true→jH T i=true)∧∀ j,j < i→zD w b j a=true→jH T j=true)
    (fun k c a _=>by simp only [iter,dt,cf,cond_false]<;>rfl)
    (fun k i c _ hi EY hI=>by
     obtain ⟨T,g1,g2,g3,g4,g5,g6⟩:=hI
     have hcT:=Jc (S:=S.set a true) (T:=T) (by rw [h1l,g2]) g3
     have hlT:T.count true≤T.length:=List.count_le_length
     have e:nth (default:aA) b.aF (i:Int)=ob b i:=rfl
     have hnB:=ae1 (k:=k) (w:=w) (b:=b) (i:=i) (j:=a) (role:=3) (by omega) hw hb hi
     have hu:dt (dk f) k=dt (dk f) k:=rfl
     cases ho:zD w b i a with
     | false=>
      refine ⟨c,?_,T,g1,g2,g3,g4,g5,fun j hj OT=>?_⟩
      ·unfold zD at ho
       simp only [iter,dt,share,b6 hi,cond_true,bF hi,bF ha,bK,hnB,ho,Option.bind_some,bH EX hi,cond_false]<;>rfl
      ·rcases Nat.lt_or_eq_of_le (Nat.lt_succ_iff.1 hj) with h | rfl
       ·exact g6 j h OT
       ·rw [ho] at OT;cases OT
     | true=>
      have hmul:(b.aF.length-T.count true+1)*(b.aF.length+2)≤(b.aF.length-S.count true)*(b.aF.length+2):=Nat.mul_le_mul_right _ (by omega)
      obtain ⟨c',T',k1,k2,k3⟩:=WY hw hb f k i c T hi g2 g1 (by omega) (by omega)
      refine ⟨c',?_,T',k2,k3.len,g3.trans k3.le,fun C hC h1 h2=>?_,fun q hq1 hq2 j hj OT=>?_,fun j hj OT=>?_⟩
      ·unfold zD at ho
       simp only [iter,dt,share,b6 hi,cond_true,bF hi,bF ha,bK,hnB,ho,Option.bind_some,bH EX hi,k1]<;>rfl
      ·have h3:=g4 C hC h1 h2
       exact k3.least C hC h3 (hC i a hi h2 ho)
      ·cases hqT:jH T q with
       | true=>exact k3.le _ (g5 q hqT hq2 j hj OT)
       | false=>exact k3.next q hq1 hqT j hj OT
      ·rcases Nat.lt_or_eq_of_le (Nat.lt_succ_iff.1 hj) with h | rfl
       ·exact k3.le _ (g6 j h OT)
       ·exact k3.here) b.aF.length 0 k (lb (fun p:aW=>bL (a:Int) p.Key) m ⟨(a:Int),1⟩) () (by omega) (by rw [Nat.add_mul] at hk;omega)
    ⟨S.set a true,hp,h1l,s8 _,fun C _ h h2=>ae2 h h2,fun q h1 h2=>by rw [h1] at h2;(cases h2),fun j hj=>by omega⟩
   refine ⟨m',S',h1,h2,h3,ab1.trans h4,h4 a (by rw [jB (by omega)];simp),h5,fun q hq1 hq2 j hj OT=>?_⟩
   by_cases e:a=q
   ·subst e;exact h7 j hj OT
   ·exact h6 q hq1 (by rw [jB (by omega),show (a==q)=false by simpa using e];exact hq2) j hj OT
theorem abm {k:Nat} {w:aH} {b:aE} (J:aH→aE→List aW→Option (List Int)) (hk:4194304*2+(b.aF.length+1)*(b.aF.length+2)≤k) (hw:w.bS.length≤1048576) (hb:gW aA.sd b.aF):
  ∃ m D,iter (ts:=mR) (R:=List Int) k (fk J) b.aF (b.aF.length:Int) (0:Int) w b []=J w b m∧lg m D∧bP b.aF.length (zD w b) (zB b) D:=by
 have EX:=hb.1
 have OS:∀ i,jH (List.replicate b.aF.length false) i=false:=fun i=>by
  cases e:jH (List.replicate b.aF.length false) i with
  | false=>rfl
  | true=>
   have:=nX e
   rw [sW this] at e
   simp at e
 obtain ⟨m,h1,D,h2,h3,h4,h5,h6⟩:=pV (C:=List aW) (A:=Unit) (f:=fun _ _=>()) (n:=b.aF.length) (B:=4194304+(b.aF.length+1)*(b.aF.length+2))
  (l:=fun k c i=>iter (ts:=mR) (R:=List Int) k (fk J) b.aF (b.aF.length:Int) i w b c) (J:=fun c=>J w b c)
  (fun i c _=>∃ T,lg c T∧T.length=b.aF.length∧pv b.aF.length (zD w b) T∧(∀ C,pv b.aF.length (zD w b) C→rI (zB b) C→rI T C)∧∀ j,j < i→jH (zB b) j=true→jH T j=true)
  (fun k c a _=>by simp only [iter,fk,cf,cond_false]<;>rfl)
  (fun k i c _ hi EY hI=>by
   obtain ⟨T,g1,g2,g3,g4,g5⟩:=hI
   have e:nth (default:aA) b.aF (i:Int)=ob b i:=rfl
   have he:=SV hi
   cases hE:(ob b i).Ending with
   | false=>
    rw [hE] at he
    refine ⟨c,?_,T,g1,g2,g3,g4,fun j hj OT=>?_⟩
    ·simp only [iter,fk,share,b6 hi,cond_true,bF hi,bK,e,hE,bH EX hi,cond_false]<;>rfl
    ·rcases Nat.lt_or_eq_of_le (Nat.lt_succ_iff.1 hj) with h | rfl
     ·exact g5 j h OT
     ·rw [he] at OT;cases OT
   | true=>
    rw [hE] at he
    have hmul:(b.aF.length-T.count true+1)*(b.aF.length+2)≤(b.aF.length+1)*(b.aF.length+2):=Nat.mul_le_mul_right _ (by omega)
    obtain ⟨c',T',k1,k2,k3⟩:=WY hw hb k k i c T hi g2 g1 (by omega) (by omega)
    refine ⟨c',?_,T',k2,k3.len,fun j q hj hq ho=>?_,fun C hC h1=>?_,fun j hj OT=>?_⟩
    ·simp only [iter,fk,share,b6 hi,cond_true,bF hi,bK,e,hE,k1,Option.bind_some,bH EX hi]<;>rfl
    ·cases hqT:jH T q with
     | true=>exact k3.le _ (g3 j q hj hqT ho)
     | false=>exact k3.next q hq hqT j hj ho
    ·exact k3.least C hC (g4 C hC h1) (h1 i he)
    ·rcases Nat.lt_or_eq_of_le (Nat.lt_succ_iff.1 hj) with h | rfl
     ·exact k3.le _ (g5 j h OT)
     ·exact k3.here) b.aF.length 0 k [] () (by omega) (by omega)
  ⟨List.replicate b.aF.length false,SW OS,by simp,fun i k _ h=>by rw [OS k] at h;(cases h),fun C _ _ i h=>by rw [OS i] at h;(cases h),fun j hj=>by omega⟩
 exact ⟨m,D,h1,h2,h3,fun i hi=>h6 i (by have:=nX hi;rwa [sX] at this) hi,h4,h5⟩
theorem aas {w:aH} {b:aE} {D:List Bool} (h:bP b.aF.length (zD w b) (zB b) D):UO w b=D:=by
 obtain ⟨h1,h2,h3,h4⟩:=M9 (n:=b.aF.length) (own:=zD w b) (S:=zB b) sX
 exact Dj (h1.trans h.len.symm) (h4 D h.closed (by rw [h.len];exact Nat.le_refl _) h.le) (h.least _ h3 h2)
def NT (b:aE) (S:List Bool) (i:Nat):List Bool:=cond (wj b i) (S.set i false) S
theorem Kq {b:aE} (m i:Nat) (S:List Bool):(It (NT b) m i S).length=S.length:=GZ (I:=fun t=>t.length=S.length) (fun t j h=>by
 unfold NT
 cases wj b j<;>simp [h]) m i S rfl
theorem YX {b:aE}:∀ (m i:Nat) (S:List Bool) (j:Nat),i+m≤S.length→j < S.length→jH (It (NT b) m i S) j=(jH S j&&!(decide (i≤j)&&decide (j < i+m)&&wj b j))
 | 0,i,S,j,_,_=>by
  have:(decide (i≤j)&&decide (j < i+0))=false:=by
   cases h:decide (i≤j) with
   | false=>rfl
   | true=>simp at h ⊢;omega
  simp only [It,this];simp
 | m+1,i,S,j,h,hj=>by
  have hl:(NT b S i).length=S.length:=Kq 1 i S
  simp only [It]
  rw [YX m (i+1) _ j (by omega) (by omega)]
  unfold NT
  by_cases e:i=j
  ·subst e
   have h1:decide (i+1≤i)=false:=by simp
   have h2:decide (i < i+(m+1))=true:=by simp
   cases hh:wj b i with
   | true=>simp only [cond_true];rw [jB (by omega)];simp [h2]
   | false=>simp [h1]
  ·have h1:decide (i+1≤j)=decide (i≤j):=by
    by_cases q:i≤j
    ·simp [q];omega
    ·simp [q];omega
   have h2:i+1+m=i+(m+1):=by omega
   rw [h1,h2]
   cases hh:wj b i with
   | true=>simp only [cond_true];rw [jB (by omega),show (i==j)=false by simpa using e];rfl
   | false=>rfl
theorem adt {k:Nat} {w:aH} {b:aE} {m:List aW} {S:List Bool} (J:aH→aE→List aW→Option (List Int)) (hk:4194304≤k) (hb:b.aF.length≤1048576) (hr:lg m S) (hS:S.length=b.aF.length):
  ∃ m',iter (ts:=gQ) (R:=List Int) k (dI J) b.aF (b.aF.length:Int) (0:Int) w b m=J w b m'∧lg m' (It (NT b) b.aF.length 0 S):=by
 obtain ⟨m',h1,h2⟩:=pV (C:=List aW) (A:=List Bool) (f:=NT b) (n:=b.aF.length) (B:=0)
  (l:=fun k c i=>iter (ts:=gQ) (R:=List Int) k (dI J) b.aF (b.aF.length:Int) i w b c) (J:=fun c=>J w b c)
  (fun i c a=>lg c a)
  (fun k c a _=>by simp only [iter,dI,cf,cond_false]<;>rfl)
  (fun k i c a hi _ hI=>by
   unfold NT
   cases hh:wj b i with
   | true=>
    refine ⟨_,?_,SX hI i⟩
    unfold wj ob at hh
    simp only [iter,dI,share,b6 hi,cond_true,bF hi,bK,hh,bH hb hi]<;>rfl
   | false=>
    refine ⟨c,?_,hI⟩
    unfold wj ob at hh
    simp only [iter,dI,share,b6 hi,cond_true,bF hi,bK,hh,bH hb hi]<;>rfl) b.aF.length 0 k m S (by omega) (by omega) hr
 exact ⟨m',h1,h2⟩
theorem UQ {w:aH} {b:aE} {D:List Bool} (h:bP b.aF.length (zD w b) (zB b) D):C7 w b (UO w b)=Mn w b (It (NT b) b.aF.length 0 D):=by
 rw [aas h]
 exact R_ h.len ((Kq ..).trans h.len) fun i hi=>by
  rw [YX _ _ _ _ (by rw [h.len];omega) (by rw [h.len];exact hi)]
  simp [hi]
end Go.Proofs.YtljfmaaadnoggaaGreatDoor.Pu
