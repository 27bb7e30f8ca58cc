/- Plain words and laws. No condition. -/
import Derived.Test.YtjkbbdldmdajkaaGreatDoorMw2
set_option linter.unusedSimpArgs false
set_option linter.unusedVariables false
namespace Go.Proofs.YtjkbbdldmdajkaaGreatDoor.Pu
open Go Go.RowKit Go.Proofs.YtjkbbdldmdajkaaGreatDoor.c5 Go.Proofs.YtjkbbdldmdajkaaGreatDoor.Fn
def Y9 (q:Option aA) (o:aA):Bool:=match q with
 | none=>true
 | some p=>qL p.Kind p.Name o.Kind o.Name
def Uq (w:aT) (b:aI) (q:Option aA) (o:aA):Bool:=
 (bI (wG w.cf o).1 0&&((jk w.eB o.aY).isSome&&(b6 1 o.Version&&b6 o.Version b.zR)))&&(Y9 q o&&(ME (wH w.cf w.iA o).aP o.aP&&EF b ((cv w.cf o).getD []) o.aP))
def oo (w:aT) (b:aI):Bool:=b6 (b.aO.length:Int) 40&&chain (Uq w b) none b.aO
theorem MF (xs:List aD) (ms:List aF) (o:aA):(wH xs ms o).aP.length=o.aP.length:=by
 unfold wH;rw [(Xj ..).1,(JL ..).1]
theorem Si (xs:List aD) (o:aA):((cv xs o).getD []).length≤o.aP.length:=by
 cases hf:cv xs o with
 | none=>simp
 | some fs=>have:=(jl hf).1;simp;omega
theorem OD {k:Nat} {w:aT} {b:aI} (hk:4194304*10≤k) (hw:w.sd) (hb:b.sd) (u9:gk w.cf w.iA=true):n9 k w b=some (oo w b):=by
 obtain ⟨-,-,-,Pv,-⟩:=hb;unfold n9 oo;have h:=fo (R:=Option Bool) (x:=b.aO) (p:=Uq w b) (B:=4194304*8) (l:=fun k i=>iter (ts:=eJ) (R:=Bool) k (dJ (some true)) w b i) (E:=some true) (O:=some false)
  (fun k=>by simp only [iter,dJ,cg,cond_false]<;>rfl)
  (fun k i hi ck=>by
   have YD:=Pv.2 _ (dB hi);have hle:=LD YD;have hsl:=MF w.cf w.iA b.aO[i];have hlk:=fun (n:Int) (J:aT→aI→Int→Option Bool)=>Sh (w:=w) (b:=b) (n:=n) (o:=b.aO[i]) Pv.1 (Si w.cf b.aO[i]) hle.1 J (show 4194304*2≤k by omega);simp only [iter,dJ,share,cd hi,bO hi,cond_true,bN,bP hi,OB (show 4194304*4≤k by omega) hw.1 YD,Mn (show 4194304≤k by omega) hw.2.2.1,Le,Qy (show 4194304*4≤k by omega) hw.1.1 hle u9,Y8 (show 4194304≤k by omega) (show (wH w.cf w.iA b.aO[i]).aP.length≤1048576 by rw [hsl];exact hle.1),sa (show 4194304≤k by omega) hw.1.1,Option.bind_some,bQ Pv.1 hi,Uq];have tail:∀ c:Bool,cond (!c) (some false) (iter (ts:=gg) (R:=Bool) k (ef fun adj adk adl=>iter (ts:=eJ) (R:=Bool) k (dJ (some true)) adj adk (aN .i64 adl (1:Int))) w b (i:Int) ((cv w.cf b.aO[i]).getD []) (0:Int) b.aO[i])
     = cond (c&&EF b ((cv w.cf b.aO[i]).getD []) b.aO[i].aP) (iter (ts:=eJ) (R:=Bool) k (dJ (some true)) w b ((i+1:Nat):Int)) (some false):=fun c=>by
    have:=hlk (i:Int) fun adj adk adl=>iter (ts:=eJ) (R:=Bool) k (dJ (some true)) adj adk (aN .i64 adl (1:Int));rw [bQ Pv.1 hi] at this;cases c with
    | false=>rfl
    | true=>exact this.trans (by cases EF b ((cv w.cf b.aO[i]).getD []) b.aO[i].aP<;>rfl)
   cases bI (wG w.cf b.aO[i]).1 0 with
   | false=>rfl
   | true=>
    cases (jk w.eB b.aO[i].aY).isSome with
    | false=>rfl
    | true=>
     cases b6 1 b.aO[i].Version&&b6 b.aO[i].Version b.zR with
     | false=>rfl
     | true=>
      rcases Nat.eq_zero_or_pos i with rfl | h0
      ·simp only [r_,lR,Y9,Bool.true_and];exact tail _
      ·have da:i-1 < b.aO.length:=by omega
       simp only [ze h0,qe h0 (show i≤1048576 by have:=Pv.1;omega),bO da,cond_true,bN,bP da,lS h0 hi,Y9,LG,Option.bind_some,QD,Bool.true_and];cases qL b.aO[i-1].Kind b.aO[i-1].Name b.aO[i].Kind b.aO[i].Name with
       | false=>rfl
       | true=>exact tail _) k (by have:=Pv.1;omega)
 simp only [share,cO];cases b6 (b.aO.length:Int) 40 with
 | false=>rfl
 | true=>exact h.trans (by cases chain (Uq w b) none b.aO<;>rfl)
theorem Xk {xs:List aD} {o:aA} (h:eM xs=true):Qr xs o=wG xs o:=by
 unfold Qr wG;rw [h,Bool.true_and]
theorem Pw (x:List aJ) (n:Nm):bM (tz (fun t:aJ=>seq t.Name n) x 0) 0=!(jk x n).isSome:=by
 unfold jk;rcases dG (fun t:aJ=>seq t.Name n) x with ⟨k1,k2⟩ | ⟨q,hq,k1,k2,_⟩
 ·rw [k1,k2];rfl
 ·rw [k1,k2,e9 (by omega)];rfl
theorem adm {fs:List aB} {vs:List Nm}:∀ t (h:t < (fs.zip vs).length),∃ h':0+t < vs.length,vs[0+t]=(fs.zip vs)[t].2:=fun t h=>by
 have h2:t < vs.length:=by simp at h;omega
 exact ⟨by omega,by simp⟩
theorem OE {k:Nat} {w:aT} {b:aI} (hk:4194304*12≤k) (hw:w.sd) (hb:b.sd) (u9:gk w.cf w.iA=true):fW k b w=some (oo w b):=by
 obtain ⟨-,-,-,Pv,-⟩:=hb;have qQ:eM w.cf=true:=by simp only [gk,Bool.and_eq_true] at u9;exact u9.1
 unfold fW oo;have h:=fo (R:=Option Bool) (x:=b.aO) (p:=Uq w b) (B:=4194304*10) (l:=fun k i=>iter (ts:=cS) (R:=Bool) k (cD fun _=>some true) b w b.aO (b.aO.length:Int) i false) (E:=some true) (O:=some false)
  (fun k=>by simp only [iter,cD,cg,cond_false]<;>rfl)
  (fun k i hi ck=>by
   have YD:=Pv.2 _ (dB hi);have hle:=LD YD;have hsl:=MF w.cf w.iA b.aO[i];have tail:∀ c:Bool,cond (!c) (some false) ((xI k w b.aO[i]).bind fun Y_=>(kP k Y_.1 Y_.2).bind fun Za=>HD (ts:=c9) (R:=Bool) (cN k) (fun (adn:aI) (ado:aT) (adp:List aA) (adq:Int) (adr:Int) (ads:Bool) (Za:aA)=>iter (ts:=cS) (R:=Bool) k (cD fun _=>some true) adn ado adp adq (aN .i64 adr (1:Int)) ads) Za b w b.aO (b.aO.length:Int) (i:Int) false b.aO[i])
     = cond (c&&EF b ((cv w.cf b.aO[i]).getD []) b.aO[i].aP) (iter (ts:=cS) (R:=Bool) k (cD fun _=>some true) b w b.aO (b.aO.length:Int) ((i+1:Nat):Int) false) (some false):=fun c=>by
    cases c with
    | false=>rfl
    | true=>
     unfold xI;simp only [Bool.not_true,cond_false,Option.bind_some,aa6 (show 4194304≤k by omega) hw.1.1 hle.1,Bool.true_and];refine (KL (show 4194304≤k by omega) Pv.1 _ _ 0 adm).trans ?_;rw [bQ Pv.1 hi];rfl
   simp only [iter,cD,share,cd hi,bO hi,cond_true,bN,bP hi,R3 (show 4194304*6≤k by omega) hw.1 YD,Xk qQ,AE (show 4194304≤k by omega) hw.2.2.1,Pw,QA (show 4194304*7≤k by omega) hw.1 hw.2.1 hle,u9,QB (show 4194304≤k by omega) (show (wH w.cf w.iA b.aO[i]).aP.length≤1048576 by rw [hsl];exact hle.1),Option.bind_some,Uq,cO b.aO[i].Version,cO b.zR];have Zb:∀ c1:Bool,cond (!c1) (some false) (cond (!(jk w.eB b.aO[i].aY).isSome) (some false) (cond (!b6 1 b.aO[i].Version) (some false) (cond (!b6 b.aO[i].Version b.zR) (some false) (cond (!ME (wH w.cf w.iA b.aO[i]).aP b.aO[i].aP) (some false) ((xI k w b.aO[i]).bind fun Y_=>(kP k Y_.1 Y_.2).bind fun Za=>HD (ts:=c9) (R:=Bool) (cN k) (fun (adn:aI) (ado:aT) (adp:List aA) (adq:Int) (adr:Int) (ads:Bool) (Za:aA)=>iter (ts:=cS) (R:=Bool) k (cD fun _=>some true) adn ado adp adq (aN .i64 adr (1:Int)) ads) Za b w b.aO (b.aO.length:Int) (i:Int) false b.aO[i])))))
     = cond ((c1&&((jk w.eB b.aO[i].aY).isSome&&(b6 1 b.aO[i].Version&&b6 b.aO[i].Version b.zR)))&&(ME (wH w.cf w.iA b.aO[i]).aP b.aO[i].aP&&EF b ((cv w.cf b.aO[i]).getD []) b.aO[i].aP)) (iter (ts:=cS) (R:=Bool) k (cD fun _=>some true) b w b.aO (b.aO.length:Int) ((i+1:Nat):Int) false) (some false):=fun c1=>by
    rw [tail];cases c1<;>cases (jk w.eB b.aO[i].aY).isSome<;>cases b6 1 b.aO[i].Version<;>cases b6 b.aO[i].Version b.zR<;>rfl
   rcases Nat.eq_zero_or_pos i with rfl | h0
   ·simp only [r_,lR,Y9,Bool.true_and];refine Eq.trans ?_ (Zb _);cases bI (wG w.cf b.aO[0]).1 0 with
    | false=>rfl
    | true=>cases (jk w.eB b.aO[0].aY).isSome<;>cases b6 1 b.aO[0].Version<;>cases b6 b.aO[0].Version b.zR<;>rfl
   ·have da:i-1 < b.aO.length:=by omega
    simp only [ze h0,qe h0 (show i≤1048576 by have:=Pv.1;omega),bO da,cond_true,bN,bP da,lS h0 hi,Y9,qL];cases h1:seq b.aO[i-1].Kind b.aO[i].Kind with
    | true=>
     rw [zj h1];cases slt b.aO[i-1].Name b.aO[i].Name with
     | false=>simp only [Bool.false_or,Bool.true_and,Bool.false_and,Bool.and_false];rfl
     | true=>
      simp only [Bool.false_or,Bool.true_and];refine Eq.trans ?_ (Zb _);cases bI (wG w.cf b.aO[i]).1 0 with
      | false=>rfl
      | true=>cases (jk w.eB b.aO[i].aY).isSome<;>cases b6 1 b.aO[i].Version<;>cases b6 b.aO[i].Version b.zR<;>rfl
    | false=>
     cases slt b.aO[i-1].Kind b.aO[i].Kind with
     | false=>simp only [Bool.false_or,Bool.true_and,Bool.false_and,Bool.and_false];rfl
     | true=>
      simp only [Bool.true_or,Bool.true_and];refine Eq.trans ?_ (Zb _);cases bI (wG w.cf b.aO[i]).1 0 with
      | false=>rfl
      | true=>cases (jk w.eB b.aO[i].aY).isSome<;>cases b6 1 b.aO[i].Version<;>cases b6 b.aO[i].Version b.zR<;>rfl) k (by have:=Pv.1;omega)
 simp only [share,cO];cases b6 (b.aO.length:Int) 40 with
 | false=>rfl
 | true=>exact h.trans (by cases chain (Uq w b) none b.aO<;>rfl)
def tC (x:List aJ):Nat→Nm→Nm→Bool
 | 0,a,b=>seq a b
 | m+1,a,b=>seq a b||(!seq (zf x a) []&&tC x m (zf x a) b)
theorem Sj {k:Nat} {x:List aJ} {a b:Nm} (hk:4194304*2≤k) (hx:x.length≤1048576):xu k x a b=some (tC x 4 a b):=by
 have go:∀ (m j k:Nat) (a:Nm),j+m=4→4194304+m+1≤k→cond (seq a b) (some true) (iter (ts:=uU) (R:=Bool) k (mV (some false)) x a b (j:Int))=some (tC x m a b):=by
  intro m
  induction m with
  | zero=>
   intro j k a h hk;obtain rfl:j=4:=by omega
   obtain ⟨k,rfl⟩:∃ q,k=q+1:=⟨k-1,by omega⟩;simp only [iter,mV,tC,e9 (show ¬ ((4:Nat):Int) < (4:Int) by omega)];cases seq a b<;>rfl
  | succ m ih=>
   intro j k a h hk;obtain ⟨k,rfl⟩:∃ q,k=q+1:=⟨k-1,by omega⟩;have h1:=ih (j+1) k (zf x a) (by omega) (by omega);simp only [iter,mV,tC,kZ (show ((j:Nat):Int) < (4:Int) by omega),cond_true,RW (show 4194304≤k by omega) hx,Option.bind_some,bQ (n:=4) (by omega) (show j < 4 by omega)];cases seq a b with
   | true=>rfl
   | false=>
    cases seq (zf x a) [] with
    | true=>rfl
    | false=>exact h1
 exact go 4 0 k a (by omega) (by omega)
theorem Sk {k:Nat} {x:List aJ} {a b:Nm} (hk:4194304*2≤k) (hx:x.length≤1048576):xK k x a b=some (tC x 4 a b):=by
 have go:∀ (m j k:Nat) (a:Nm),j+m=4→4194304+m+1≤k→iter (ts:=u4) (R:=Bool) k (mY (some true)) x a b (j:Int)=some (tC x m a b):=by
  intro m
  induction m with
  | zero=>
   intro j k a h hk;obtain rfl:j=4:=by omega
   obtain ⟨k,rfl⟩:∃ q,k=q+1:=⟨k-1,by omega⟩;simp only [iter,mY,share,tC,AE (show 4194304≤k by omega) hx,Option.bind_some,show bI ((4:Nat):Int) 4=true from rfl];cases seq a b<;>rfl
  | succ m ih=>
   intro j k a h hk;obtain ⟨k,rfl⟩:∃ q,k=q+1:=⟨k-1,by omega⟩;have hj:bI (j:Int) 4=false:=by simp only [bI,beq_eq_false_iff_ne];omega
   have h1:=ih (j+1) k (zf x a) (by omega) (by omega);simp only [iter,mY,share,tC,AE (show 4194304≤k by omega) hx,Option.bind_some,hj];cases seq a b with
   | true=>rfl
   | false=>
    simp only [Bool.not_false,cond_true,cond_false,Bool.false_or];rcases dG (fun t:aJ=>seq t.Name a) x with ⟨k1,k2⟩ | ⟨q,hq,k1,k2,_⟩
    ·have e:zf x a=[]:=by simp only [zf,jk,k2]
     rw [k1,e];rfl
    ·have e:zf x a=x[q].g9:=by simp only [zf,jk,k2]
     rw [k1,e9 (by omega),bO hq,bP hq,e];rw [e] at h1;simp only [cond_false,bN];cases seq x[q].g9 [] with
     | true=>rfl
     | false=>
      simp only [cond_false,bQ (n:=4) (by omega) (show j < 4 by omega)];exact h1
 exact go 4 0 k a (by omega) (by omega)
def Zc (q:Option aG) (g:aG):Bool:=match q with
 | none=>true
 | some p=>!b6 g.Number p.Number
def Bv (b:aI) (q:Option aG) (g:aG):Bool:=(b6 1 g.Number&&b6 g.Number b.fX)&&(Zc q g&&(cw g.To&&(Br g.By&&zD g.cF)))
def xX (b:aI):Bool:=b6 (b.bK.length:Int) 24&&chain (Bv b) none b.bK
theorem QE {k:Nat} {b:aI} (hk:4194304*3≤k) (hb:b.sd):pI k b=some (xX b):=by
 obtain ⟨-,-,-,-,hg,-⟩:=hb;unfold pI xX;have h:=fo (R:=Option Bool) (x:=b.bK) (p:=Bv b) (B:=4194304*2) (l:=fun k i=>iter (ts:=sU) (R:=Bool) k (lz (some true)) b i) (E:=some true) (O:=some false)
  (fun k=>by simp only [iter,lz,cg,cond_false]<;>rfl)
  (fun k i hi ck=>by
   obtain ⟨-,g1,g2,g3⟩:=hg.2 _ (dB hi);simp only [iter,lz,share,cd hi,bO hi,cond_true,bN,bP hi,Le,ea (show 4194304≤k by omega) g1,ea (show 4194304≤k by omega) g2,Qm (show 4194304*2≤k by omega) g3,Option.bind_some,bQ hg.1 hi,Bv,Br];rcases Nat.eq_zero_or_pos i with rfl | h0
   ·simp only [r_,lR,Zc];cases b6 1 b.bK[0].Number&&b6 b.bK[0].Number b.fX<;>cases cw b.bK[0].To<;>cases seq b.bK[0].By []<;>cases cw b.bK[0].By<;>cases zD b.bK[0].cF<;>rfl
   ·have da:i-1 < b.bK.length:=by omega
    simp only [ze h0,qe h0 (show i≤1048576 by have:=hg.1;omega),bO da,cond_true,bN,bP da,lS h0 hi,Zc];cases b6 1 b.bK[i].Number&&b6 b.bK[i].Number b.fX<;>cases b6 b.bK[i].Number b.bK[i-1].Number<;>cases cw b.bK[i].To<;>cases seq b.bK[i].By []<;>cases cw b.bK[i].By<;>cases zD b.bK[i].cF<;>rfl) k (by have:=hg.1;omega)
 simp only [share,cO];cases b6 (b.bK.length:Int) 24 with
 | false=>rfl
 | true=>exact h.trans (by cases chain (Bv b) none b.bK<;>rfl)
theorem QF {k:Nat} {b:aI} (hk:4194304*3≤k) (hb:b.sd):gL k b=some (xX b):=by
 obtain ⟨-,-,-,-,hg,-⟩:=hb;unfold gL xX;have h:=fo (R:=Option Bool) (x:=b.bK) (p:=Bv b) (B:=4194304*2) (l:=fun k i=>iter (ts:=mg) (R:=Bool) k (fe (some true)) b b.bK (b.bK.length:Int) i) (E:=some true) (O:=some false)
  (fun k=>by simp only [iter,fe,cg,cond_false]<;>rfl)
  (fun k i hi ck=>by
   obtain ⟨-,g1,g2,g3⟩:=hg.2 _ (dB hi);simp only [iter,fe,share,cd hi,bO hi,cond_true,bN,bP hi,fP (show 4194304≤k by omega) g1,fP (show 4194304≤k by omega) g2,Qn (show 4194304*2≤k by omega) g3,Option.bind_some,bQ hg.1 hi,Bv,Br];rw [cO b.bK[i].Number,cO b.fX];rcases Nat.eq_zero_or_pos i with rfl | h0
   ·simp only [r_,lR,Zc];cases b6 1 b.bK[0].Number<;>cases b6 b.bK[0].Number b.fX<;>cases cw b.bK[0].To<;>cases seq b.bK[0].By []<;>cases cw b.bK[0].By<;>cases zD b.bK[0].cF<;>rfl
   ·have da:i-1 < b.bK.length:=by omega
    simp only [ze h0,qe h0 (show i≤1048576 by have:=hg.1;omega),bO da,cond_true,bN,bP da,lS h0 hi,Zc];cases b6 1 b.bK[i].Number<;>cases b6 b.bK[i].Number b.fX<;>cases b6 b.bK[i].Number b.bK[i-1].Number<;>cases cw b.bK[i].To<;>cases seq b.bK[i].By []<;>cases cw b.bK[i].By<;>cases zD b.bK[i].cF<;>rfl) k (by have:=hg.1;omega)
 simp only [share,cO];cases b6 (b.bK.length:Int) 24 with
 | false=>rfl
 | true=>exact h.trans (by cases chain (Bv b) none b.bK<;>rfl)
def DK (res:Nm) (q:aB×Nm):Int:=cond (bI q.1.Kind 1&&seq q.1.bD res) ((num q.2).getD 0) 0
theorem Bw (res:Nm) (q:aB×Nm):0≤DK res q∧DK res q < 10000000:=by
 unfold DK;cases bI q.1.Kind 1&&seq q.1.bD res with
 | false=>simp only [cond_false];exact ⟨by decide,by decide⟩
 | true=>
  cases hn:num q.2 with
  | none=>exact ⟨by decide,by decide⟩
  | some v=>exact Ey hn
def vm (w:aT) (o:aA) (res:Nm):Int:=cond ((cv w.cf o).isSome&&!seq res []) ((((cv w.cf o).getD []).zip o.aP).foldl (fun s q=>s+DK res q) (cond (seq res o.Kind) 1 0)) 0
theorem MG {α:Type} {f:α→Int} {M:Int} (hf:∀ a,0≤f a∧f a < M):∀ (l:List α) (s:Int),0≤s→0≤l.foldl (fun s q=>s+f q) s∧l.foldl (fun s q=>s+f q) s≤s+M*(l.length:Int)
 | [],s,h=>by simp [h]
 | a::r,s,h=>by
  have:=MG hf r (s+f a) (by have:=hf a;omega);have h2:=hf a;have e:M*((a::r).length:Int)=M*(r.length:Int)+M:=by rw [List.length_cons];push_cast;rw [Int.mul_add,Int.mul_one]
  rw [List.foldl_cons,e];omega
theorem Bx {w:aT} {o:aA} {res:Nm} (ho:o.aP.length≤1048576):0≤vm w o res∧vm w o res≤10485760000001:=by
 unfold vm;cases (cv w.cf o).isSome&&!seq res [] with
 | false=>simp only [cond_false];exact ⟨by decide,by decide⟩
 | true=>
  have h:=MG (Bw res) (((cv w.cf o).getD []).zip o.aP) (cond (seq res o.Kind) 1 0) (by cases seq res o.Kind<;>decide);have hl:(((cv w.cf o).getD []).zip o.aP).length≤1048576:=by simp;omega
  have hc:(cond (seq res o.Kind) 1 0:Int)≤1:=by cases seq res o.Kind<;>decide
  simp only [cond_true];omega
theorem QG {k:Nat} {w:aT} {o:aA} {res:Nm} (hk:4194304*2≤k) (hw:w.cf.length≤1048576) (ho:o.aP.length≤1048576):pJ k w o res=some (vm w o res):=by
 unfold pJ vm;rw [sa (by omega) hw];simp only [Option.bind_some,share];cases hf:cv w.cf o with
 | none=>rfl
 | some fs=>
  have hl:=(jl hf).1;have hz:=EE (a:=fs) (b:=o.aP) (by omega);simp only [Option.isSome_some,Option.getD_some,Bool.not_true,Bool.true_and,cond_false];cases hr:seq res [] with
  | true=>rfl
  | false=>
   have h:=fun n0:Int=>fun (h0:0≤n0∧n0≤1)=>fm (S:=Int) (x:=fs.zip o.aP) (f:=fun s q=>s+DK res q) (B:=4194304) (l:=fun k s i=>iter (ts:=sV) (R:=Int) k (lB fun v=>some v) res o fs s i) (J:=fun s=>some s) (fun i s=>0≤s∧s≤1+10000000*(i:Int))
    (fun k s _=>by simp only [hz,iter,lB,cg,cond_false]<;>rfl)
    (fun k i s hi hb hI=>by
     rw [hz] at hi;have da:i < o.aP.length:=by omega
     have hw1:=Bw res (fs[i],o.aP[i]);refine ⟨?_,by rw [List.getElem_zip];push_cast;omega⟩;simp only [iter,lB,share,cd hi,bO hi,bO da,cond_true,bN,bP hi,bP da,bQ (show fs.length≤1048576 by omega) hi,Ms _ hb,Option.bind_some,List.getElem_zip,DK];cases c1:bI fs[i].Kind 1 with
     | false=>simp only [cond_false,Bool.false_and,Int.add_zero]<;>rfl
     | true=>
      cases c2:seq fs[i].bD res with
      | false=>simp only [cond_false,cond_true,Bool.and_false,Int.add_zero]<;>rfl
      | true=>
       cases hn:num o.aP[i] with
       | none=>simp only [cond_true,Bool.and_self,Option.getD_none,Int.add_zero];rfl
       | some v=>
        have:=Ey hn;simp only [cond_true,Bool.and_self,Option.getD_some];by_cases hv:0 < v
        ·rw [kZ hv,s9 (by omega) (by omega)];rfl
        ·rw [e9 hv,show v=0 by omega,Int.add_zero];rfl) k n0 (by rw [hz];omega) ⟨h0.1,by push_cast;omega⟩
   cases seq res o.Kind with
   | true=>exact h 1 ⟨by decide,by decide⟩
   | false=>exact h 0 ⟨by decide,by decide⟩
theorem QH {k:Nat} {w:aT} {o:aA} {res:Nm} (hk:4194304*2≤k) (hw:w.cf.length≤1048576) (ho:o.aP.length≤1048576):pT k w o res=some (vm w o res):=by
 unfold pT vm;rw [wF (by omega) hw];simp only [Option.bind_some,share];cases hf:cv w.cf o with
 | none=>rfl
 | some fs=>
  have hl:=(jl hf).1;have hz:=EE (a:=fs) (b:=o.aP) (by omega);simp only [Option.isSome_some,Option.getD_some,Bool.not_true,Bool.true_and,cond_false];cases hr:seq res [] with
  | true=>rfl
  | false=>
   have h:=fun n0:Int=>fun (h0:0≤n0∧n0≤1)=>fm (S:=Int) (x:=fs.zip o.aP) (f:=fun s q=>s+DK res q) (B:=4194304) (l:=fun k s i=>iter (ts:=s8) (R:=Int) k (lL fun v=>some v) res o s fs (fs.length:Int) i) (J:=fun s=>some s) (fun i s=>0≤s∧s≤1+10000000*(i:Int))
    (fun k s _=>by simp only [hz,iter,lL,cg,cond_false]<;>rfl)
    (fun k i s hi hb hI=>by
     rw [hz] at hi;have da:i < o.aP.length:=by omega
     have hw1:=Bw res (fs[i],o.aP[i]);refine ⟨?_,by rw [List.getElem_zip];push_cast;omega⟩;simp only [iter,lL,share,cd hi,bO hi,bO da,cond_true,bN,bP hi,bP da,bQ (show fs.length≤1048576 by omega) hi,Pf _ hb,Option.bind_some,List.getElem_zip,DK];cases c1:bI fs[i].Kind 1 with
     | false=>simp only [cond_false,Bool.false_and,Int.add_zero,Bool.not_false,cond_true]<;>rfl
     | true=>
      cases c2:seq fs[i].bD res with
      | false=>simp only [cond_false,cond_true,Bool.and_false,Int.add_zero,Bool.not_false,Bool.not_true]<;>rfl
      | true=>
       cases hn:num o.aP[i] with
       | none=>
        have e0:s+0=aN .i64 s 0:=(s9 (by omega) (by omega)).symm;simp only [cond_true,Bool.and_self,Option.getD_none,e0]<;>rfl
       | some v=>
        have:=Ey hn;have e0:s+v=aN .i64 s v:=(s9 (by omega) (by omega)).symm;simp only [cond_true,Bool.and_self,Option.getD_some,e0]<;>rfl) k n0 (by rw [hz];omega) ⟨h0.1,by push_cast;omega⟩
   cases seq res o.Kind with
   | true=>exact h 1 ⟨by decide,by decide⟩
   | false=>exact h 0 ⟨by decide,by decide⟩
def MH (w:aT) (dH res:Nm) (o:aA):Int:=cond (tC w.eB 4 o.aY dH) (vm w o res) 0
def AF (w:aT) (b:aI) (dH res:Nm):Int:=b.aO.foldl (fun s o=>s+MH w dH res o) 0
theorem Ur {k:Nat} {w:aT} {b:aI} {dH res:Nm} (hk:4194304*3≤k) (hw:w.sd) (hb:b.sd) (hl:b.aO.length≤40):ua k w b dH res=some (AF w b dH res):=by
 obtain ⟨-,-,-,Pv,-⟩:=hb;unfold ua AF;simp only [share];exact fm (S:=Int) (x:=b.aO) (f:=fun s o=>s+MH w dH res o) (B:=4194304*2) (l:=fun k s i=>iter (ts:=v8) (R:=Int) k (oa fun v=>some v) dH res w b s i) (J:=fun s=>some s) (fun i s=>0≤s∧s≤10485760000001*(i:Int))
  (fun k s _=>by simp only [iter,oa,cg,cond_false]<;>rfl)
  (fun k i s hi hb hI=>by
   have hv:=(Pv.2 _ (dB hi)).2.2.2.1.1;have hr:=Bx (w:=w) (res:=res) hv;simp only [iter,oa,share,cd hi,bO hi,cond_true,bN,bP hi,bQ Pv.1 hi,Sj hb hw.2.2.1,QG hb hw.1.1 hv,Option.bind_some,MH];cases tC w.eB 4 b.aO[i].aY dH with
   | false=>exact ⟨by simp only [cond_false,Int.add_zero]<;>rfl,by simp only [cond_false];push_cast;omega⟩
   | true=>
    have e0:s+vm w b.aO[i] res=aN .i64 s (vm w b.aO[i] res):=(s9 (by omega) (by omega)).symm;exact ⟨by simp only [cond_true,e0]<;>rfl,by simp only [cond_true];push_cast;omega⟩) k 0 (by omega) (by simp)
theorem Us {k:Nat} {w:aT} {b:aI} {dH res:Nm} (hk:4194304*3≤k) (hw:w.sd) (hb:b.sd) (hl:b.aO.length≤40):tQ k w b dH res=some (AF w b dH res):=by
 obtain ⟨-,-,-,Pv,-⟩:=hb;unfold tQ AF;simp only [share];exact fm (S:=Int) (x:=b.aO) (f:=fun s o=>s+MH w dH res o) (B:=4194304*2) (l:=fun k s i=>iter (ts:=wa) (R:=Int) k (oh fun v=>some v) dH res w s b.aO (b.aO.length:Int) i) (J:=fun s=>some s) (fun i s=>0≤s∧s≤10485760000001*(i:Int))
  (fun k s _=>by simp only [iter,oh,cg,cond_false]<;>rfl)
  (fun k i s hi hb hI=>by
   have hv:=(Pv.2 _ (dB hi)).2.2.2.1.1;have hr:=Bx (w:=w) (res:=res) hv;simp only [iter,oh,share,cd hi,bO hi,cond_true,bN,bP hi,bQ Pv.1 hi,Sk hb hw.2.2.1,QH hb hw.1.1 hv,Option.bind_some,MH];cases tC w.eB 4 b.aO[i].aY dH with
   | false=>exact ⟨by simp only [cond_false,Int.add_zero]<;>rfl,by simp only [cond_false];push_cast;omega⟩
   | true=>
    have e0:s+vm w b.aO[i] res=aN .i64 s (vm w b.aO[i] res):=(s9 (by omega) (by omega)).symm;exact ⟨by simp only [cond_true,e0]<;>rfl,by simp only [cond_true];push_cast;omega⟩) k 0 (by omega) (by simp)
theorem KM {w:aT} {b:aI} {dH res:Nm} (hb:b.sd) (hl:b.aO.length≤40):0≤AF w b dH res∧AF w b dH res≤419430400000040:=by
 obtain ⟨-,-,-,Pv,-⟩:=hb;unfold AF;have:∀ (l:List aA) (s:Int),(∀ o,o∈l→o.aP.length≤1048576)→0≤s→0≤l.foldl (fun s o=>s+MH w dH res o) s∧l.foldl (fun s o=>s+MH w dH res o) s≤s+10485760000001*(l.length:Int):=by
  intro l
  induction l with
  | nil=>intro s _ h;simp [h]
  | cons a r ih=>
   intro s h h0;have hr:=Bx (w:=w) (res:=res) (h a (by simp));have hu:0≤MH w dH res a∧MH w dH res a≤10485760000001:=by
    unfold MH;cases tC w.eB 4 a.aY dH with
    | false=>simp only [cond_false];exact ⟨by decide,by decide⟩
    | true=>exact hr
   have:=ih (s+MH w dH res a) (fun o ho=>h o (by simp [ho])) (by omega);rw [List.foldl_cons,List.length_cons]
   push_cast
   omega
 have h:=this b.aO 0 (fun o ho=>(Pv.2 o ho).2.2.2.1.1) (by decide);omega
section
variable {α R S:Type} {x:List α} {B:Nat}
theorem KN {p:Option α→α→Bool} {f:S→α→S} {l:Nat→S→Int→R} {E:S→R} {O:R} (he:∀ k s,l (k+1) s (x.length:Int)=E s)
  (h:∀ k i s (hi:i < x.length),B≤k→l (k+1) s (i:Int)=cond (p (ahead x i) x[i]) (l k (f s x[i]) ((i+1:Nat):Int)) O) (k:Nat) (s:S) (hk:B+x.length+1≤k):l k s 0=cond (chain p none x) (E (x.foldl f s)) O:=by
 have go:∀ m i k s,i+m=x.length→B+m+1≤k→l k s (i:Int)=cond (chain p (ahead x i) (x.drop i)) (E ((x.drop i).foldl f s)) O:=by
  intro m
  induction m with
  | zero=>
   intro i k s h1 h2;obtain rfl:i=x.length:=by omega
   obtain ⟨k,rfl⟩:∃ j,k=j+1:=⟨k-1,by omega⟩;simp [he,chain]
  | succ m ih=>
   intro i k s h1 h2;obtain ⟨k,rfl⟩:∃ j,k=j+1:=⟨k-1,by omega⟩;have hi:i < x.length:=by omega
   rw [h k i s hi (by omega),List.drop_eq_getElem_cons hi];have e:some x[i]=ahead x (i+1):=by simp [ahead]
   simp only [chain,e,List.foldl_cons];cases p (ahead x i) x[i] with
   | true=>simpa using ih (i+1) k _ (by omega) (by omega)
   | false=>rfl
 have:=go x.length 0 k s (by omega) (by omega);simpa [ahead] using this
end
def DL (a b:cl):Bool:=seq a.dH b.dH&&seq a.resource b.resource
theorem Bz {a b:cl}:DL a b=true↔a=b:=by
 cases a;cases b;simp only [DL,Bool.and_eq_true,cC,cl.mk.injEq]
theorem Zd (a b:cl):DL a b=DL b a:=by
 rw [Bool.eq_iff_iff,Bz,Bz];exact eq_comm
def BA (a:cl) (m:List cU):Int:=m7 (fun p:cU=>DL a p.Key) (fun p:cU=>p.L4) (0:Int) m
def pn (a:cl) (v:Int) (m:List cU):List cU:=oM (fun p:cU=>DL a p.Key) m ⟨a,v⟩
theorem H4 (a c:cl) (v:Int):∀ (m:List cU),BA a (pn c v m)=cond (DL a c) v (BA a m)
 | []=>by
  unfold BA pn;rw [Ml,mq]
 | q::m=>by
  unfold BA pn;rw [JB];cases h:DL c q.Key with
  | true=>
   have e:=Bz.1 h;rw [cond_true,mq,mq,← e];cases DL a c<;>rfl
  | false=>
   rw [cond_false,mq,mq];have ih:=H4 a c v m;unfold BA pn at ih;rw [ih];cases h1:DL a q.Key with
   | false=>rfl
   | true=>
    have e:=Bz.1 h1;subst e;rw [show DL q.Key c=false by rw [Zd];exact h];rfl
def JM (g:aE):cl:=⟨g.aY,g.aL⟩
def Ut (q:Option aE) (g:aE):Bool:=match q with
 | none=>true
 | some p=>qL p.aY p.aL g.aY g.aL
def Ze (w:aT) (g:aE):Bool:=(jk w.eB g.aY).isSome&&(cw g.aL&&(b6 0 g.dP&&(b6 g.dP g.bU&&b6 g.bU 1000000)))
def Sl (w:aT) (q:Option aE) (g:aE):Bool:=Ze w g&&Ut q g
theorem Sm {a b c d e f:Nm} (h1:qL a b c d=true) (h2:qL c d e f=true):qL a b e f=true:=by
 simp only [qL,Bool.or_eq_true,Bool.and_eq_true] at *;rcases h1 with h1 | ⟨h1,h3⟩
 ·rcases h2 with h2 | ⟨h2,-⟩
  ·exact .inl (Mm h1 h2)
  ·rw [← cC.1 h2];exact .inl h1
 ·rw [cC.1 h1];rcases h2 with h2 | ⟨h2,h4⟩
  ·exact .inl h2
  ·exact .inr ⟨h2,Mm h3 h4⟩
theorem Px (a b:Nm):qL a b a b=false:=by
 simp only [qL,LC,Bool.and_false,Bool.or_false]
theorem Py:∀ {l:List aE} {q:Option aE},chain Ut q l=true→(l.map JM).Nodup∧∀ p,q=some p→∀ y,y∈l→qL p.aY p.aL y.aY y.aL=true
 | [],_,_=>⟨List.nodup_nil,fun _ _ _ h=>by cases h⟩
 | a::r,q,h=>by
  simp only [chain,Bool.and_eq_true] at h;obtain ⟨h1,h2⟩:=h;obtain ⟨h3,h4⟩:=Py h2;refine ⟨List.nodup_cons.2 ⟨fun hm=>?_,h3⟩,fun p hp y hy=>?_⟩
  ·obtain ⟨y,hy,e⟩:=List.mem_map.1 hm;have:=h4 a rfl y hy;simp only [JM,cl.mk.injEq] at e;rw [e.1,e.2,Px] at this;cases this
  ·subst hp;rcases List.mem_cons.1 hy with e | e
   ·exact e▸h1
   ·exact Sm h1 (h4 a rfl y e)
def nI (b:aI) (dH res:Nm):Int:=tz (fun g=>seq g.aY dH&&seq g.aL res) b.aK 0
theorem MI {k:Nat} {b:aI} {dH res:Nm} (hk:4194304≤k) (hb:b.aK.length≤1048576):o5 k b dH res=some (nI b dH res):=by
 unfold o5;simp only [share];exact mr (x:=b.aK) (p:=fun g=>seq g.aY dH&&seq g.aL res) (l:=fun k i=>iter (ts:=v7) (R:=Int) k (n_ (some (-1))) dH res b i)
  (fun k=>by simp only [iter,n_,cg,cond_false]<;>rfl)
  (fun k i hi=>by
   simp only [iter,n_,share,cd hi,bO hi,cond_true,bN,bP hi,bQ hb hi];cases seq b.aK[i].aY dH<;>rfl) k (by omega)
theorem Sn {k:Nat} {b:aI} {dH res:Nm} (hk:4194304≤k) (hb:b.aK.length≤1048576):fK k b dH res=some (nI b dH res):=by
 unfold fK;simp only [share];exact mr (x:=b.aK) (p:=fun g=>seq g.aY dH&&seq g.aL res) (l:=fun k i=>iter (ts:=nB) (R:=Int) k (gj (some (-1))) dH res b.aK (b.aK.length:Int) i)
  (fun k=>by simp only [iter,gj,cg,cond_false]<;>rfl)
  (fun k i hi=>by
   simp only [iter,gj,share,cd hi,bO hi,cond_true,bN,bP hi,bQ hb hi];cases seq b.aK[i].aY dH<;>rfl) k (by omega)
def sw (z p:aC):Bool:=cond (!seq z.cT p.cT) (slt z.cT p.cT) (qL z.aY z.aL p.aY p.aL)
def JN (q:Option aC) (p:aC):Bool:=match q with
 | none=>true
 | some z=>sw z p
def QI (b:aI) (p:aC):Bool:=cw p.cT&&(!bM (nI b p.aY p.aL) 0&&((b6 1 p.cm&&b6 p.cm 1000000)&&(b6 b.ix p.ez&&b6 p.ez (aN .i64 b.ix 10))))
def JO (b:aI) (q:Option aC) (p:aC):Bool:=QI b p&&JN q p
theorem MJ (k:Nat) (a b:aC):∃ v,gz k a b=some v∧b6 0 v=!sw a b:=by
 unfold gz sw;cases h:seq a.cT b.cT with
 | true=>exact ⟨_,by simp only [Bool.not_true,cond_false,LG];rfl,QD ..⟩
 | false=>
  refine ⟨_,by simp only [Bool.not_false,cond_true,LF];rfl,?_⟩;unfold Li;rw [h];cases slt a.cT b.cT<;>rfl
theorem F7 (k:Nat) (a b:aC):ki k a b=some (sw a b):=by
 unfold ki sw qL;cases seq a.cT b.cT with
 | false=>rfl
 | true=>
  cases h:seq a.aY b.aY with
  | false=>simp
  | true=>rw [zj h];rfl
def vl (a:cl) (p:aC):Int:=cond (DL a ⟨p.aY,p.aL⟩) p.cm 0
def So (b:aI) (a:cl):Int:=b.aU.foldl (fun s p=>s+vl a p) 0
def acF (b:aI):Prop:=∀ p,p∈b.aU→1≤p.cm∧p.cm≤1000000
theorem JP {b:aI}:∀ {l:List aC} {q:Option aC},chain (JO b) q l=true→∀ p,p∈l→1≤p.cm∧p.cm≤1000000
 | [],_,_,_,h=>by cases h
 | a::r,q,h,p,hp=>by
  simp only [chain,Bool.and_eq_true] at h;rcases List.mem_cons.1 hp with e | e
  ·subst e;simp only [JO,QI,Bool.and_eq_true] at h;obtain ⟨⟨⟨-,-,⟨h1,h2⟩,-⟩,-⟩,-⟩:=h;exact ⟨oU h1,oU h2⟩
  ·exact JP h.2 p e
theorem H5 {a:cl}:∀ (l:List aC) (s:Int),(∀ p,p∈l→1≤p.cm∧p.cm≤1000000)→l.foldl (fun s p=>s+vl a p) s=s+l.foldl (fun s p=>s+vl a p) 0∧0≤l.foldl (fun s p=>s+vl a p) 0∧l.foldl (fun s p=>s+vl a p) 0≤1000000*(l.length:Int)
 | [],s,_=>by simp
 | p::r,s,h=>by
  have h1:0≤vl a p∧vl a p≤1000000:=by
   have:=h p (by simp);unfold vl;cases DL a ⟨p.aY,p.aL⟩ with
   | true=>simp only [cond_true];omega
   | false=>simp only [cond_false];omega
  have ih1:=H5 (a:=a) r (s+vl a p) (fun q hq=>h q (by simp [hq]));have ih2:=H5 (a:=a) r (0+vl a p) (fun q hq=>h q (by simp [hq]));rw [List.foldl_cons,List.foldl_cons,List.length_cons]
  push_cast
  omega
theorem Xl {k:Nat} {b:aI} {dH res:Nm} (hk:4194304≤k) (hl:b.aU.length≤1048576) (hg:acF b):A9 k b dH res=some (So b ⟨dH,res⟩):=by
 unfold A9 So;simp only [share];exact fm (S:=Int) (x:=b.aU) (f:=fun s p=>s+vl ⟨dH,res⟩ p) (B:=0) (l:=fun k s i=>iter (ts:=Aa) (R:=Int) k (ub fun v=>some v) dH res b s i) (J:=fun s=>some s) (fun i s=>0≤s∧s≤1000000*(i:Int))
  (fun k s _=>by simp only [iter,ub,cg,cond_false]<;>rfl)
  (fun k i s hi hb hI=>by
   have hv:=hg _ (dB hi);have e0:s+b.aU[i].cm=aN .i64 s b.aU[i].cm:=(s9 (by omega) (by omega)).symm;simp only [iter,ub,share,cd hi,bO hi,cond_true,bN,bP hi,bQ hl hi,vl,DL];rw [xS dH,xS res];cases seq b.aU[i].aY dH with
   | false=>exact ⟨by simp only [cond_false,Bool.false_and,Int.add_zero]<;>rfl,by simp only [cond_false,Bool.false_and];push_cast;omega⟩
   | true=>
    cases seq b.aU[i].aL res with
    | false=>exact ⟨by simp only [cond_false,Bool.and_false,Int.add_zero]<;>rfl,by simp only [cond_false,Bool.and_false];push_cast;omega⟩
    | true=>exact ⟨by simp only [cond_true,Bool.and_self,e0]<;>rfl,by simp only [cond_true,Bool.and_self];push_cast;omega⟩) k 0 (by omega) (by simp)
def Sp (w:aT) (b:aI) (g:aE):Bool:=bI (AF w b g.aY g.aL+So b (JM g)+g.dP) g.bU
def BB (w:aT) (b:aI):Bool:=(b6 (b.aK.length:Int) 10&&b6 (b.aU.length:Int) 24)&&(chain (JO b) none b.aU&&(chain (Sl w) none b.aK&&b.aK.all (Sp w b)))
theorem OF {w:aT} {b:aI} {k:Nat} (hk:4194304*5≤k) (hw:w.sd) (hb:b.sd) (hl:b.aO.length≤40) (hg:acF b):
  iter (ts:=nq) (R:=Bool) k (jb (some true)) w b (0:Int)=some (chain (Sl w) none b.aK&&b.aK.all (Sp w b)):=by
 have ck:=hb;obtain ⟨-,-,-,-,-,hle,YE⟩:=hb;have h:=fo (R:=Option Bool) (x:=b.aK) (p:=fun q g=>Sl w q g&&Sp w b g) (B:=4194304*3) (l:=fun k i=>iter (ts:=nq) (R:=Bool) k (jb (some true)) w b i) (E:=some true) (O:=some false)
  (fun k=>by simp only [iter,jb,cg,cond_false]<;>rfl)
  (fun k i hi hbk=>by
   have hgi:=hle.2 _ (dB hi);simp only [iter,jb,share,cd hi,bO hi,cond_true,bN,bP hi,Mn (show 4194304≤k by omega) hw.2.2.1,ea (show 4194304≤k by omega) hgi.2.1,Ur (dH:=b.aK[i].aY) (res:=b.aK[i].aL) hbk hw ck hl,Xl (dH:=b.aK[i].aY) (res:=b.aK[i].aL) (show 4194304≤k by omega) YE.1 hg,Option.bind_some,bQ hle.1 hi,Sl,Ze,cO,Sp,JM];have hu:=KM (w:=w) (dH:=b.aK[i].aY) (res:=b.aK[i].aL) ck hl;have ho:=(H5 (a:=⟨b.aK[i].aY,b.aK[i].aL⟩) b.aU 0 hg).2;have I_:0≤So b ⟨b.aK[i].aY,b.aK[i].aL⟩∧So b ⟨b.aK[i].aY,b.aK[i].aL⟩≤1000000*(b.aU.length:Int):=ho;have hpl:=YE.1;cases (jk w.eB b.aK[i].aY).isSome with
   | false=>rfl
   | true=>
    cases cw b.aK[i].aL with
    | false=>rfl
    | true=>
     cases f1:b6 0 b.aK[i].dP with
     | false=>rfl
     | true=>
      cases f2:b6 b.aK[i].dP b.aK[i].bU with
      | false=>rfl
      | true=>
       cases f3:b6 b.aK[i].bU 1000000 with
       | false=>rfl
       | true=>
        have f1':=oU f1;have f2':=oU f2;have f3':=oU f3;rw [s9 (m:=AF w b b.aK[i].aY b.aK[i].aL) (by omega) (by omega),s9 (by omega) (by omega)];rcases Nat.eq_zero_or_pos i with rfl | h0
        ·simp only [Bool.not_true,cond_false,FW (show (((0:Nat):Int))≤0 by omega),lR,Ut,Bool.and_self,Bool.true_and];cases bI (AF w b b.aK[0].aY b.aK[0].aL+So b ⟨b.aK[0].aY,b.aK[0].aL⟩+b.aK[0].dP) b.aK[0].bU<;>rfl
        ·have da:i-1 < b.aK.length:=by omega
         simp only [Bool.not_true,Bool.not_false,cond_true,cond_false,RU (show ¬ ((i:Int))≤0 by omega),qe h0 (show i≤1048576 by have:=hle.1;omega),bO da,bN,bP da,lS h0 hi,Ut,LG,Option.bind_some,QD,Bool.and_self,Bool.true_and];cases qL b.aK[i-1].aY b.aK[i-1].aL b.aK[i].aY b.aK[i].aL<;>cases bI (AF w b b.aK[i].aY b.aK[i].aL+So b ⟨b.aK[i].aY,b.aK[i].aL⟩+b.aK[i].dP) b.aK[i].bU<;>rfl) k (by have:=hle.1;omega)
 rw [qK,tx] at h;exact h.trans (by cases chain (Sl w) none b.aK&&b.aK.all (Sp w b)<;>rfl)
theorem Uu {k:Nat} {w:aT} {b:aI} (hk:4194304*5≤k) (hw:w.sd) (hb:b.sd) (hl:b.aO.length≤40):uc k w b=some (BB w b):=by
 have ck:=hb;obtain ⟨-,-,-,-,-,hle,YE⟩:=hb;unfold uc BB;have h:=fun J:aT→aI→Option Bool=>fo (R:=Option Bool) (x:=b.aU) (p:=JO b) (B:=4194304*2) (l:=fun k i=>iter (ts:=v9) (R:=Bool) k (oc J) w b i) (E:=J w b) (O:=some false)
  (fun k=>by simp only [iter,oc,cg,cond_false]<;>rfl)
  (fun k i hi hbk=>by
   have hpi:=YE.2 _ (dB hi);simp only [iter,oc,share,cd hi,bO hi,cond_true,bN,bP hi,ea (show 4194304≤k by omega) hpi.1,MI (show 4194304≤k by omega) hle.1,Le,Option.bind_some,bQ YE.1 hi,JO,QI];rcases Nat.eq_zero_or_pos i with rfl | h0
   ·simp only [r_,lR,JN];cases cw b.aU[0].cT<;>cases bM (nI b b.aU[0].aY b.aU[0].aL) 0<;>cases b6 1 b.aU[0].cm&&b6 b.aU[0].cm 1000000<;>cases b6 b.ix b.aU[0].ez&&b6 b.aU[0].ez (aN .i64 b.ix 10)<;>rfl
   ·have da:i-1 < b.aU.length:=by omega
    obtain ⟨v,v1,v2⟩:=MJ k b.aU[i-1] b.aU[i];simp only [ze h0,qe h0 (show i≤1048576 by have:=YE.1;omega),bO da,cond_true,bN,bP da,lS h0 hi,v1,v2,Option.bind_some,JN];cases cw b.aU[i].cT<;>cases bM (nI b b.aU[i].aY b.aU[i].aL) 0<;>cases b6 1 b.aU[i].cm&&b6 b.aU[i].cm 1000000<;>cases b6 b.ix b.aU[i].ez&&b6 b.aU[i].ez (aN .i64 b.ix 10)<;>cases sw b.aU[i-1] b.aU[i]<;>rfl) k (by have:=YE.1;omega)
 simp only [share,cO];cases b6 (b.aK.length:Int) 10 with
 | false=>rfl
 | true=>
  cases b6 (b.aU.length:Int) 24 with
  | false=>rfl
  | true=>
   refine (h _).trans ?_;cases hc:chain (JO b) none b.aU with
   | false=>rfl
   | true=>exact (OF hk hw ck hl fun p hp=>JP hc p hp).trans rfl
theorem VT {α:Type} {p q:α→Bool}:∀ {l:List α},(∀ a,a∈l→p a=q a)→l.all p=l.all q
 | [],_=>rfl
 | a::r,h=>by rw [List.all_cons,List.all_cons,h a (by simp),VT (l:=r) fun b hb=>h b (by simp [hb])]
def Uv (w:aT) (b:aI) (m:List cU) (g:aE):List cU:=pn (JM g) (aN .i64 g.dP (AF w b g.aY g.aL)) m
def qR (p:aC):cl:=⟨p.aY,p.aL⟩
def Xm (m:List cU) (p:aC):List cU:=pn (qR p) (aN .i64 (BA (qR p) m) p.cm) m
theorem adt {a b:cl} (h:a≠b):DL a b=false:=by
 cases e:DL a b with
 | false=>rfl
 | true=>exact absurd (Bz.1 e) h
theorem Zf (a:cl):DL a a=true:=Bz.2 rfl
theorem MK {w:aT} {b:aI} {a:cl}:∀ (l:List aE) (m:List cU),(∀ g,g∈l→a≠JM g)→BA a (l.foldl (Uv w b) m)=BA a m
 | [],_,_=>rfl
 | g::r,m,h=>by
  rw [List.foldl_cons,MK r _ fun x hx=>h x (by simp [hx])];unfold Uv;rw [H4,adt (h g (by simp))];rfl
theorem Sq {w:aT} {b:aI}:∀ (l:List aE) (m:List cU),(l.map JM).Nodup→∀ g,g∈l→BA (JM g) (l.foldl (Uv w b) m)=aN .i64 g.dP (AF w b g.aY g.aL)
 | [],_,_,_,h=>by cases h
 | g::r,m,hn,x,hx=>by
  simp only [List.map_cons,List.nodup_cons] at hn;rw [List.foldl_cons];rcases List.mem_cons.1 hx with e | e
  ·subst e;rw [MK r _ fun y hy e=>hn.1 (by rw [e];exact List.mem_map_of_mem hy)];unfold Uv;rw [H4,Zf];rfl
  ·exact Sq r _ hn.2 x e
theorem Sr {a:cl}:∀ (l:List aC) (m:List cU),(∀ p,p∈l→1≤p.cm∧p.cm≤1000000)→0≤BA a m→BA a m+1000000*(l.length:Int)≤9223372036854775807→BA a (l.foldl Xm m)=BA a m+l.foldl (fun s p=>s+vl a p) 0
 | [],m,_,_,_=>by simp
 | p::r,m,h,h0,h1=>by
  have hp:=h p (by simp);have hr:∀ q,q∈r→1≤q.cm∧q.cm≤1000000:=fun q hq=>h q (by simp [hq]);rw [List.length_cons] at h1
  push_cast at h1
  have hg:BA a (Xm m p)=BA a m+vl a p:=by
   unfold Xm vl;rw [H4];have ek:(⟨p.aY,p.aL⟩:cl)=qR p:=rfl;rw [ek];cases e:DL a (qR p) with
   | false=>simp only [cond_false,Int.add_zero]
   | true=>
    simp only [cond_true];rw [← Bz.1 e,s9 (by omega) (by omega)]
  have ho:0≤vl a p∧vl a p≤1000000:=by
   unfold vl;cases DL a ⟨p.aY,p.aL⟩ with
   | true=>simp only [cond_true];omega
   | false=>simp only [cond_false];omega
  rw [List.foldl_cons,Sr r (Xm m p) hr (by omega) (by omega),hg,List.foldl_cons,(H5 (a:=a) r (0+vl a p) hr).1];omega
theorem Uw {k:Nat} {w:aT} {b:aI} (hk:4194304*5≤k) (hw:w.sd) (hb:b.sd) (hl:b.aO.length≤40):iL k b w=some (BB w b):=by
 have ck:=hb;obtain ⟨-,-,-,-,-,hle,YE⟩:=hb;unfold iL BB;have h5:=fun J:aI→List cU→Option Bool=>KN (R:=Option Bool) (x:=b.aK) (p:=Sl w) (f:=Uv w b) (B:=4194304*3) (l:=fun k m i=>iter (ts:=m8) (R:=Bool) k (fV J) b w b.aK (b.aK.length:Int) i m) (E:=fun m=>J b m) (O:=some false)
  (fun k m=>by simp only [iter,fV,cg,cond_false]<;>rfl)
  (fun k i m hi hbk=>by
   have hgi:=hle.2 _ (dB hi);simp only [iter,fV,share,cd hi,bO hi,cond_true,bN,bP hi,AE (show 4194304≤k by omega) hw.2.2.1,Pw,fP (show 4194304≤k by omega) hgi.2.1,Us (dH:=b.aK[i].aY) (res:=b.aK[i].aL) hbk hw ck hl,Option.bind_some,Sl,Ze];rw [bQ hle.1 hi,cO b.aK[i].dP,cO b.aK[i].bU,cO 1000000];rcases Nat.eq_zero_or_pos i with rfl | h0
   ·simp only [r_,lR,Ut];cases (jk w.eB b.aK[0].aY).isSome<;>cases cw b.aK[0].aL<;>cases b6 0 b.aK[0].dP<;>cases b6 b.aK[0].dP b.aK[0].bU<;>cases b6 b.aK[0].bU 1000000<;>rfl
   ·have da:i-1 < b.aK.length:=by omega
    simp only [ze h0,qe h0 (show i≤1048576 by have:=hle.1;omega),bO da,cond_true,bN,bP da,lS h0 hi,Ut,qL];cases h1:seq b.aK[i-1].aY b.aK[i].aY with
    | true=>
     rw [zj h1];cases slt b.aK[i-1].aL b.aK[i].aL<;>cases (jk w.eB b.aK[i].aY).isSome<;>cases cw b.aK[i].aL<;>cases b6 0 b.aK[i].dP<;>cases b6 b.aK[i].dP b.aK[i].bU<;>cases b6 b.aK[i].bU 1000000<;>rfl
    | false=>
     cases slt b.aK[i-1].aY b.aK[i].aY<;>cases (jk w.eB b.aK[i].aY).isSome<;>cases cw b.aK[i].aL<;>cases b6 0 b.aK[i].dP<;>cases b6 b.aK[i].dP b.aK[i].bU<;>cases b6 b.aK[i].bU 1000000<;>rfl) k [] (by have:=hle.1;omega)
 have h16:=fun (J:aI→List cU→Option Bool) (m:List cU)=>KN (R:=Option Bool) (x:=b.aU) (p:=JO b) (f:=Xm) (B:=4194304*2) (l:=fun k m i=>iter (ts:=mF) (R:=Bool) k (fy J) b b.aU (b.aU.length:Int) i m) (E:=fun m=>J b m) (O:=some false)
  (fun k m=>by simp only [iter,fy,cg,cond_false]<;>rfl)
  (fun k i m hi hbk=>by
   have hpi:=YE.2 _ (dB hi);simp only [iter,fy,share,cd hi,bO hi,cond_true,bN,bP hi,Sn (show 4194304≤k by omega) hle.1,fP (show 4194304≤k by omega) hpi.1,F7,Option.bind_some,JO,QI];rw [bQ YE.1 hi,cO b.aU[i].cm,cO 1000000,cO b.aU[i].ez,cO (aN .i64 b.ix 10)];rcases Nat.eq_zero_or_pos i with rfl | h0
   ·simp only [r_,lR,JN];cases cw b.aU[0].cT<;>cases bM (nI b b.aU[0].aY b.aU[0].aL) 0<;>cases b6 1 b.aU[0].cm<;>cases b6 b.aU[0].cm 1000000<;>cases b6 b.ix b.aU[0].ez<;>cases b6 b.aU[0].ez (aN .i64 b.ix 10)<;>rfl
   ·have da:i-1 < b.aU.length:=by omega
    simp only [ze h0,qe h0 (show i≤1048576 by have:=YE.1;omega),bO da,cond_true,bN,bP da,lS h0 hi,JN];cases sw b.aU[i-1] b.aU[i]<;>cases cw b.aU[i].cT<;>cases bM (nI b b.aU[i].aY b.aU[i].aL) 0<;>cases b6 1 b.aU[i].cm<;>cases b6 b.aU[i].cm 1000000<;>cases b6 b.ix b.aU[i].ez<;>cases b6 b.aU[i].ez (aN .i64 b.ix 10)<;>rfl) k m (by have:=YE.1;omega)
 have h26:=fun m:List cU=>gI (R:=Option Bool) (x:=b.aK) (p:=fun g=>bI (BA (JM g) m) g.bU) (B:=0) (l:=fun k i=>iter (ts:=mD) (R:=Bool) k (fx (some true)) b.aK (b.aK.length:Int) i m) (E:=some true) (O:=some false)
  (fun k=>by simp only [iter,fx,cg,cond_false]<;>rfl)
  (fun k i hi _=>by
   simp only [iter,fx,cd hi,bO hi,cond_true,bN,bP hi,bQ hle.1 hi];have e:m7 (fun p:cU=>(seq b.aK[i].aY p.Key.dH&&(seq b.aK[i].aL p.Key.resource))) (fun p:cU=>p.L4) (0:Int) m=BA (JM b.aK[i]) m:=rfl;rw [e];cases bI (BA (JM b.aK[i]) m) b.aK[i].bU<;>rfl) k (by have:=hle.1;omega)
 simp only [share,cO];cases hl1:b6 (b.aK.length:Int) 10 with
 | false=>rfl
 | true=>
  cases Ok:b6 (b.aU.length:Int) 24 with
  | false=>rfl
  | true=>
   refine (h5 _).trans ?_;cases hc:chain (Sl w) none b.aK with
   | false=>simp only [Bool.false_and,Bool.and_false];rfl
   | true=>
    refine (h16 _ _).trans ?_;cases hp:chain (JO b) none b.aU with
    | false=>rfl
    | true=>
     refine (h26 _).trans ?_;have hg:=JP hp;have adu:chain (fun q g=>Ze w g&&Ut q g) none b.aK=true:=hc;rw [qK,tx] at adu;have nG:=List.all_eq_true.1 (Bool.and_eq_true_iff.1 adu).1;have zg:=(Py (Bool.and_eq_true_iff.1 adu).2).1;have ah3:=oU Ok;rw [VT (p:=fun g=>bI (BA (JM g) (b.aU.foldl Xm (b.aK.foldl (Uv w b) []))) g.bU) (q:=Sp w b) fun g hgm=>by
      have hu:=KM (w:=w) (dH:=g.aY) (res:=g.aL) ck hl;have h0:=nG g hgm;simp only [Ze,Bool.and_eq_true] at h0;have f1:=oU h0.2.2.1;have f2:=oU h0.2.2.2.1;have f3:=oU h0.2.2.2.2;have e1:=Sq (w:=w) (b:=b) b.aK [] zg g hgm;rw [s9 (by omega) (by omega)] at e1;have e2:=Sr (a:=JM g) b.aU (b.aK.foldl (Uv w b) []) hg (by omega) (by omega);rw [e2,e1];unfold Sp So
      congr 1
      omega]
     cases b.aK.all (Sp w b)<;>rfl
def lT (w:aT) (b:aI):Bool:=(Ct w&&((b6 0 b.zR&&b6 b.zR 1000000)&&((b6 0 b.ix&&b6 b.ix 1000000)&&(b6 0 b.fX&&b6 b.fX b.zR))))&&(oo w b&&(xX b&&BB w b))
theorem Pz {w:aT} {b:aI} (h:oo w b=true):b.aO.length≤40:=by
 simp only [oo,Bool.and_eq_true] at h;have:=oU h.1;omega
theorem KO {w:aT} (h:Ct w=true):gk w.cf w.iA=true:=by
 simp only [Ct,Bool.and_eq_true] at h;exact h.1
theorem QJ {k:Nat} {w:aT} {b:aI} (hk:4194304*12≤k) (hw:w.sd) (hb:b.sd):pA k w b=some (lT w b):=by
 unfold pA lT;simp only [share,R7 (show 4194304*6≤k by omega) hw,Le,Option.bind_some,QE (show 4194304*3≤k by omega) hb];cases hl:Ct w with
 | false=>rfl
 | true=>
  rw [OD (show 4194304*10≤k by omega) hw hb (KO hl)];cases b6 0 b.zR&&b6 b.zR 1000000 with
  | false=>rfl
  | true=>
   cases b6 0 b.ix&&b6 b.ix 1000000 with
   | false=>rfl
   | true=>
    cases b6 0 b.fX&&b6 b.fX b.zR with
    | false=>rfl
    | true=>
     cases ho:oo w b with
     | false=>rfl
     | true=>
      rw [Uu (show 4194304*5≤k by omega) hw hb (Pz ho)];cases xX b<;>rfl
theorem QK {k:Nat} {w:aT} {b:aI} (hk:4194304*12≤k) (hw:w.sd) (hb:b.sd):py k w b=some (lT w b):=by
 unfold py lT;simp only [share,R8 (show 4194304*7≤k by omega) hw,Option.bind_some,QF (show 4194304*3≤k by omega) hb,cO];cases hl:Ct w with
 | false=>rfl
 | true=>
  rw [OE hk hw hb (KO hl)];cases b6 0 b.zR with
  | false=>rfl
  | true=>
   cases b6 b.zR 1000000 with
   | false=>rfl
   | true=>
    cases b6 0 b.ix with
    | false=>rfl
    | true=>
     cases b6 b.ix 1000000 with
     | false=>rfl
     | true=>
      cases b6 0 b.fX with
      | false=>rfl
      | true=>
       cases b6 b.fX b.zR with
       | false=>rfl
       | true=>
        cases ho:oo w b with
        | false=>rfl
        | true=>
         rw [Uw (show 4194304*5≤k by omega) hw hb (Pz ho)];cases xX b<;>rfl
theorem acG {w:aT} (h:Ct w=true):HV w.eB=true:=by
 simp only [Ct,Bool.and_eq_true] at h;exact h.2
theorem adv {w:aT} {b:aI} (h:lT w b=true):Ct w=true:=by
 simp only [lT,Bool.and_eq_true] at h;exact h.1.1
theorem QL {b:aI}:∀ {l:List aG} {q:Option aG},chain (Bv b) q l=true→∀ g,g∈l→zD g.cF=true
 | [],_,_,_,h=>by cases h
 | a::r,q,h,g,hg=>by
  simp only [chain,Bool.and_eq_true] at h;rcases List.mem_cons.1 hg with e | e
  ·subst e;have h1:=h.1;simp only [Bv,Bool.and_eq_true] at h1;exact h1.2.2.2.2
  ·exact QL h.2 g e
theorem Yd.ge {α:Type} {F:Nat→Option α} {a:α} (C:Nat) (h:∀ k,C≤k→F k=some a):Yd F a:=⟨C,h⟩
theorem ML (x:List (List UInt8)):fD lU x=x.length:=by
 induction x with
 | nil=>rfl
 | cons a r ih=>simp only [fD,ih,lU,List.length_cons];omega
theorem KP {α:Type} {w:α→Int} {b:Int} {xs:List α} (hx:xs.length≤1048576) (hb:0≤b) (h:∀ x,x∈xs→w x≤b):fD w xs≤1048576*b:=
 Int.le_trans (Zg h) (Int.mul_le_mul_of_nonneg_right (by omega) hb)
theorem VU {xs:List aD} (h:k_ aD.sd xs):0≤fD dL xs∧fD dL xs≤1200000000000000000:=by
 refine ⟨ig F8 xs,Int.le_trans (KP (b:=1100000000001) h.1 (by omega) fun s hs=>?_) (by omega)⟩;have h2:=KP (w:=eP) (b:=1048586) (h.2 s hs).2.1 (by omega) fun f hf=>by
  have h3:=((h.2 s hs).2.2 f hf).2.2.2.2.1.1;unfold eP;rw [ML];omega
 unfold dL;omega
theorem Zh {xs:List aF} (h:k_ aF.sd xs):0≤fD fq xs∧fD fq xs≤10000000:=
 ⟨ig H6 xs,Int.le_trans (KP (b:=6) h.1 (by omega) fun s _=>by unfold fq;omega) (by omega)⟩
theorem Zi {xs:List aJ} (h:k_ aJ.sd xs):0≤fD gn xs∧fD gn xs≤10000000:=
 ⟨ig H7 xs,Int.le_trans (KP (b:=2) h.1 (by omega) fun s _=>by unfold gn;omega) (by omega)⟩
theorem MM {xs:List aA} (h:k_ aA.sd xs):0≤fD cy xs∧fD cy xs≤10000000000000:=
 ⟨ig xY xs,Int.le_trans (KP (b:=2097157) h.1 (by omega) fun s hs=>by
  have h1:=(h.2 s hs).2.2.2.1.1;have h2:=(h.2 s hs).2.2.2.2.2.1.1;unfold cy;rw [ML,ML];omega) (by omega)⟩
theorem aeR (xs:List Int):fD vn xs=xs.length:=by
 induction xs with
 | nil=>rfl
 | cons a r ih=>simp only [fD,ih,vn,List.length_cons];omega
theorem QM {xs:List aG} (h:k_ aG.sd xs):0≤fD cQ xs∧fD cQ xs≤10000000000000:=
 ⟨ig zG xs,Int.le_trans (KP (b:=1048582) h.1 (by omega) fun s hs=>by
  have h1:=(h.2 s hs).2.2.2.1.1;unfold cQ;rw [aeR];omega) (by omega)⟩
theorem MN {xs:List aE} (h:k_ aE.sd xs):0≤fD cK xs∧fD cK xs≤10000000:=
 ⟨ig xZ xs,Int.le_trans (KP (b:=4) h.1 (by omega) fun s _=>by unfold cK;omega) (by omega)⟩
theorem QN {xs:List aC} (h:k_ aC.sd xs):0≤fD cY xs∧fD cY xs≤10000000:=
 ⟨ig zH xs,Int.le_trans (KP (b:=5) h.1 (by omega) fun s _=>by unfold cY;omega) (by omega)⟩
def Zj (x:aT):Int:=fD dL x.cf+fD fq x.iA+fD gn x.eB
def Ky (x:aI):Int:=fD cy x.aO+fD cQ x.bK+fD cK x.aK+fD cY x.aU
theorem ac8 {x:aT} (h:x.sd):0≤Zj x∧Zj x≤1300000000000000000:=by
 have h1:=VU h.1;have h2:=Zh h.2.1;have h3:=Zi h.2.2;unfold Zj;omega
theorem VG {x:aI} (h:x.sd):0≤Ky x∧Ky x≤30000000000000:=by
 have h1:=MM h.2.2.2.1;have h2:=QM h.2.2.2.2.1;have h3:=MN h.2.2.2.2.2.1;have h4:=QN h.2.2.2.2.2.2;unfold Ky;omega
def aeS (m:Int) (x:aT):List aD×List aF×List aJ:=(BC dL GJ m x.cf,BC fq JQ (m+fD dL x.cf) x.iA,BC gn JR (m+fD dL x.cf+fD fq x.iA) x.eB)
def DF (m:Int) (x:aI):List aA×List aG×List aE×List aC:=(BC cy qM m x.aO,BC cQ tD (m+fD cy x.aO) x.bK,BC cK qN (m+fD cy x.aO+fD cQ x.bK) x.aK,BC cY tE (m+fD cy x.aO+fD cQ x.bK+fD cK x.aK) x.aU)
theorem W7 {k:Nat} {m:Int} {x:aT} (hk:4194304*4≤k) (h:x.sd) (h0:0≤m) (hm:m≤2000000000000000000):
  nS k m x.cf x.iA x.eB=some (m+Zj x,aeS m x):=by
 have h1:=VU h.1;have h2:=Zh h.2.1;have h3:=Zi h.2.2;unfold nS Zj aeS;rw [CQ (by omega) h.1 h0 (by omega)];simp only [Option.bind_some];rw [DM (by omega) h.2.1 (by omega) (by omega)];simp only [Option.bind_some];rw [DN (by omega) h.2.2 (by omega) (by omega)];simp only [Option.bind_some,dr,fE,mz,Int.add_assoc]
theorem Mi {k:Nat} {m n1 n2 n3:Int} {x:aI} (hk:4194304*3≤k) (h:x.sd) (h0:0≤m) (hm:m≤4000000000000000000):
  iV k n1 n2 n3 m x.aO x.bK x.aK x.aU=some (m+Ky x,DF m x):=by
 have h1:=MM h.2.2.2.1;have h2:=QM h.2.2.2.2.1;have h3:=MN h.2.2.2.2.2.1;have h4:=QN h.2.2.2.2.2.2;unfold iV Ky DF;rw [BD (by omega) h.2.2.2.1 h0 (by omega)];simp only [Option.bind_some];rw [CR (by omega) h.2.2.2.2.1 (by omega) (by omega)];simp only [Option.bind_some];rw [BE (by omega) h.2.2.2.2.2.1 (by omega) (by omega)];simp only [Option.bind_some];rw [CS (by omega) h.2.2.2.2.2.2 (by omega) (by omega)];simp only [Option.bind_some,dr,fE,mz,Int.add_assoc]
abbrev BkT:Type:=Int×Int×Int×List aA×List aG×List aE×List aC
abbrev BcT:Type:=Int×Int×Int×Int×List aA×List aG×List aE×List aC
def MO (b:aI):BkT:=(b.zR,b.ix,b.fX,b.aO,b.bK,b.aK,b.aU)
def aaY (b:aI) (c:Int):BcT:=(b.zR,b.ix,b.fX,c,b.aO,b.bK,b.aK,b.aU)
def Zk:aI:=⟨0,0,0,[],[],[],[]⟩
theorem MP {α:Type}:∀ (x s:List α),x.foldl (fun s a=>s++[a]) s=s++x
 | [],s=>by simp
 | a::r,s=>by simp [MP r]
theorem wN {α R:Type} {x:List α} {B:Nat} {l:Nat→List α→Int→R} {J:List α→R} (he:∀ k s,l (k+1) s (x.length:Int)=J s)
  (h:∀ k i s (hi:i < x.length),B≤k→s.length≤i→l (k+1) s (i:Int)=l k (s++[x[i]]) ((i+1:Nat):Int)) (k:Nat) (hk:B+x.length+1≤k):l k [] 0=J x:=by
 have:=fm (x:=x) (B:=B) (l:=l) (J:=J) (f:=fun s a=>s++[a]) (fun i s=>s.length≤i) (fun k s _=>he k s)
  (fun k i s hi hb hI=>⟨h k i s hi hb hI,by simp;omega⟩) k [] hk (by simp)
 rw [this,MP];rfl
theorem Xn {b:aI} {a1 a2 a3 a4 a5 a6:Int} {p:List aA} {q:List aG} {r:List aE} {s:List aC} {t:List aA} {u:List aE} {v:List aC} {k:Nat} (hk:4194304≤k) (hb:k_ aG.sd b.bK)
  (J:aI→Int→Int→Int→Int→Int→Int→List aA→List aG→List aE→List aC→List aA→List aG→List aE→List aC→Option BkT):
  iter (ts:=oP) (R:=BkT) k (kL J) (0:Int) b a1 a2 a3 a4 a5 a6 p q r s t [] u v=J b a1 a2 a3 a4 a5 a6 p q r s t b.bK u v:=by
 have VJ:=hb.1;exact wN (x:=b.bK) (B:=0) (l:=fun k z i=>iter (ts:=oP) (R:=BkT) k (kL J) i b a1 a2 a3 a4 a5 a6 p q r s t z u v) (J:=fun z=>J b a1 a2 a3 a4 a5 a6 p q r s t z u v)
  (fun k z=>by simp only [iter,kL,cg,cond_false]<;>rfl)
  (fun k i z hi _ hz=>by
   have hv:=(hb.2 _ (dB hi)).2.2.2.1.1;simp only [iter,kL,zx,cd hi,bO hi,cond_true,bN,bP hi,bQ VJ hi];rw [lQ (by simp only [List.length_nil];omega) (by omega)];simp only [bN,Option.bind_some];rw [lQ (by simp only [List.length_singleton];omega) (by omega)];rfl) k (by omega)
theorem Xo {b:aI} {a1 a2 a3 a4 a5 a6:Int} {p:List aA} {q:List aG} {r:List aE} {s:List aC} {t:List aG} {u:List aE} {v:List aC} {k:Nat} (hk:4194304≤k) (hb:k_ aA.sd b.aO)
  (J:aI→Int→Int→Int→Int→Int→Int→List aA→List aG→List aE→List aC→List aA→List aG→List aE→List aC→Option BkT):
  iter (ts:=oQ) (R:=BkT) k (kM J) (0:Int) b a1 a2 a3 a4 a5 a6 p q r s [] t u v=J b a1 a2 a3 a4 a5 a6 p q r s b.aO t u v:=by
 have VJ:=hb.1;exact wN (x:=b.aO) (B:=0) (l:=fun k z i=>iter (ts:=oQ) (R:=BkT) k (kM J) i b a1 a2 a3 a4 a5 a6 p q r s z t u v) (J:=fun z=>J b a1 a2 a3 a4 a5 a6 p q r s z t u v)
  (fun k z=>by simp only [iter,kM,cg,cond_false]<;>rfl)
  (fun k i z hi _ hz=>by
   simp only [iter,kM,cd hi,bO hi,cond_true,bN,bP hi,bQ VJ hi,JK (LD (hb.2 _ (dB hi))),Option.bind_some];rw [lQ (by simp only [List.length_singleton];omega) (by omega)];rfl) k (by omega)
theorem Xp {k:Nat} {b:aI} (hk:4194304≤k) (hb:b.sd):tR k b=some (MO b):=by
 obtain ⟨-,-,-,ho,hg,hl,hp⟩:=hb;have hl1:=hl.1;have hp1:=hp.1;unfold tR;simp only [share];refine (Xo hk ho _).trans ?_;refine (Xn hk hg _).trans ?_;show bE (kW (([]:List aE).length+b.aK.length) 48) (bE (kW (([]:List aC).length+b.aU.length) 64) _)=_;rw [lQ (by simp only [List.length_nil];omega) (by omega),lQ (by simp only [List.length_nil];omega) (by omega)];rfl
theorem VV {n b:Nat} (hn:n≤1048576) (hb:b≤100000):Gf (0:Int) (n:Int) b=true:=by
 have h1:(n:Int)*(b:Int)≤1048576*100000:=Int.mul_le_mul (by omega) (by omega) (by omega) (by omega);simp only [Gf,Bool.and_eq_true,decide_eq_true_eq];exact ⟨by omega,by omega,by omega,by omega⟩
theorem H8 {α:Type} {x:List α} (h:bI (x.length:Int) (0:Int)=true):x=[]:=by
 simp only [bI,beq_iff_eq] at h;exact List.eq_nil_of_length_eq_zero (by omega)
theorem VW {n:Nat} {α:Type} {y:Option α}:bE (bI (n:Int) (n:Int)&&bI (n:Int) (n:Int)) y=y:=by rw [ph];rfl
theorem Ss {k:Nat} {r:bG} (h:r.b_.length≤1048576):iM k r=some (r.Kind,r.aY,r.cP,r.b_):=by
 unfold iM;cases hv:bI (r.b_.length:Int) (0:Int) with
 | true=>rw [H8 hv];rfl
 | false=>
  simp only [cond_false];rw [VQ h (by omega),pY (by simp)];rfl
theorem aa7 {k:Nat} {x:List aA} (hk:4194304≤k) (hx:k_ aA.sd x):dV k x=some x:=by
 have hx1:=hx.1;unfold dV;cases hv:bI (x.length:Int) (0:Int) with
 | true=>rw [H8 hv];rfl
 | false=>
  simp only [cond_false,share];rw [VV hx1 (by omega)];refine (wN (x:=x) (B:=0) (l:=fun k z i=>iter (ts:=h_) (R:=List aA) k (dy fun v=>bE (bI (v.length:Int) (v.length:Int)&&bI (v.length:Int) (v.length:Int)) (some v)) x (x.length:Int) i z) (J:=fun v=>bE (bI (v.length:Int) (v.length:Int)&&bI (v.length:Int) (v.length:Int)) (some v))
   (fun k z=>by simp only [iter,dy,cg,cond_false]<;>rfl)
   (fun k i z hi _ hz=>by
    simp only [iter,dy,cd hi,bO hi,cond_true,bN,bP hi,bQ hx1 hi,Qu (LD (hx.2 _ (dB hi))),Option.bind_some];rw [lQ (by simp only [List.length_singleton];omega) (by omega)];rfl) k (by omega)).trans VW
theorem aa8 {k:Nat} {x:List aG} (hk:4194304≤k) (hx:k_ aG.sd x):eh k x=some x:=by
 have hx1:=hx.1;unfold eh;cases hv:bI (x.length:Int) (0:Int) with
 | true=>rw [H8 hv];rfl
 | false=>
  simp only [cond_false,share];rw [VV hx1 (by omega)];refine (wN (x:=x) (B:=0) (l:=fun k z i=>iter (ts:=iy) (R:=List aG) k (dE fun v=>bE (bI (v.length:Int) (v.length:Int)&&bI (v.length:Int) (v.length:Int)) (some v)) x (x.length:Int) i z) (J:=fun v=>bE (bI (v.length:Int) (v.length:Int)&&bI (v.length:Int) (v.length:Int)) (some v))
   (fun k z=>by simp only [iter,dE,cg,cond_false]<;>rfl)
   (fun k i z hi _ hz=>by
    simp only [iter,dE,mw,cd hi,bO hi,cond_true,bN,bP hi,bQ hx1 hi,Ss (hx.2 _ (dB hi)).2.2.2.1.1,Option.bind_some];rw [lQ (by simp only [List.length_singleton];omega) (by omega)];rfl) k (by omega)).trans VW
theorem aa9 {k:Nat} {x:List aE} (hk:4194304≤k) (hx:x.length≤1048576):dW k x=some x:=by
 unfold dW;cases hv:bI (x.length:Int) (0:Int) with
 | true=>rw [H8 hv];rfl
 | false=>
  simp only [cond_false,share];rw [VV hx (by omega)];refine (wN (x:=x) (B:=0) (l:=fun k z i=>iter (ts:=ia) (R:=List aE) k (dz fun v=>bE (bI (v.length:Int) (v.length:Int)&&bI (v.length:Int) (v.length:Int)) (some v)) x (x.length:Int) i z) (J:=fun v=>bE (bI (v.length:Int) (v.length:Int)&&bI (v.length:Int) (v.length:Int)) (some v))
   (fun k z=>by simp only [iter,dz,cg,cond_false]<;>rfl)
   (fun k i z hi _ hz=>by
    simp only [iter,dz,hY,cd hi,bO hi,cond_true,bN,bP hi,bQ hx hi,Option.bind_some];rw [lQ (by simp only [List.length_singleton];omega) (by omega)];rfl) k (by omega)).trans VW
theorem aa_ {k:Nat} {x:List aC} (hk:4194304≤k) (hx:x.length≤1048576):er k x=some x:=by
 unfold er;cases hv:bI (x.length:Int) (0:Int) with
 | true=>rw [H8 hv];rfl
 | false=>
  simp only [cond_false,share];rw [VV hx (by omega)];refine (wN (x:=x) (B:=0) (l:=fun k z i=>iter (ts:=iz) (R:=List aC) k (dF fun v=>bE (bI (v.length:Int) (v.length:Int)&&bI (v.length:Int) (v.length:Int)) (some v)) x (x.length:Int) i z) (J:=fun v=>bE (bI (v.length:Int) (v.length:Int)&&bI (v.length:Int) (v.length:Int)) (some v))
   (fun k z=>by simp only [iter,dF,cg,cond_false]<;>rfl)
   (fun k i z hi _ hz=>by
    simp only [iter,dF,iD,cd hi,bO hi,cond_true,bN,bP hi,bQ hx hi,Option.bind_some];rw [lQ (by simp only [List.length_singleton];omega) (by omega)];rfl) k (by omega)).trans VW
theorem St {k:Nat} {b:aI} (hk:4194304≤k) (hb:b.sd):iN k b=some (MO b):=by
 obtain ⟨-,-,-,ho,hg,hl,hp⟩:=hb;unfold iN;rw [aa7 hk ho,aa8 hk hg,aa9 hk hl.1,aa_ hk hp.1];rfl
theorem Ua {k:Nat} {m n1 n2 n3:Int} {x:aI} (hk:4194304*3≤k) (h:x.sd) (h0:0≤m) (hm:m≤4000000000000000000):
  gb k (⟨n1,n2,n3,(DF m x).1,(DF m x).2.1,(DF m x).2.2.1,(DF m x).2.2.2⟩:aI) m=some (m+Ky x):=by
 have h1:=MM h.2.2.2.1;have h2:=QM h.2.2.2.2.1;have h3:=MN h.2.2.2.2.2.1;have h4:=QN h.2.2.2.2.2.2;unfold gb Ky DF;simp only;rw [BF (by omega) h.2.2.2.1 h0 (by omega)];simp only [Option.bind_some];rw [zI (by omega)];simp only [cond_false];rw [CU (by omega) h.2.2.2.2.1 (by omega) (by omega)];simp only [Option.bind_some];rw [zI (by omega)];simp only [cond_false];rw [BG (by omega) h.2.2.2.2.2.1 (by omega) (by omega)];simp only [Option.bind_some];rw [zI (by omega)];simp only [cond_false];rw [CV (by omega) h.2.2.2.2.2.2 (by omega) (by omega)];simp only [Option.bind_some];rw [zI (by omega)];simp only [cond_false,Int.add_assoc]
theorem AG {n:Int}:kA .i64 n↔-9223372036854775808≤n∧n≤9223372036854775807:=Iff.rfl
theorem MQ (n:Int):kA .i64 (IntKind.i64.wrap n):=by
 simp only [AG,IntKind.wrap,IntKind.bits,IntKind.signed,Bool.true_and];split<;>rename_i h<;>simp at h<;>omega
theorem GK (a b:Int):kA .i64 (aN .i64 a b):=MQ _
theorem Ux (a b:Int):kA .i64 (bS .i64 a b):=MQ _
def H9 (b:aI) (d t r:Nm):Int:=tz (fun p=>seq p.cT d&&(seq p.aY t&&seq p.aL r)) b.aU 0
theorem Xq {k:Nat} {b:aI} {d t r:Nm} (hk:4194304≤k) (hb:b.aU.length≤1048576):wx k b d t r=some (H9 b d t r):=by
 unfold wx;simp only [share];exact mr (x:=b.aU) (p:=fun p=>seq p.cT d&&(seq p.aY t&&seq p.aL r)) (l:=fun k i=>iter (ts:=xw) (R:=Int) k (pK (some (-1))) d t r b i)
  (fun k=>by simp only [iter,pK,cg,cond_false]<;>rfl)
  (fun k i hi=>by
   simp only [iter,pK,share,cd hi,bO hi,cond_true,bN,bP hi,bQ hb hi];cases seq b.aU[i].cT d<;>cases seq b.aU[i].aY t<;>rfl) k (by omega)
theorem aba {k:Nat} {b:aI} {d t r:Nm} (hk:4194304≤k) (hb:b.aU.length≤1048576):gD k b d t r=some (H9 b d t r):=by
 unfold gD;simp only [share];exact mr (x:=b.aU) (p:=fun p=>seq p.cT d&&(seq p.aY t&&seq p.aL r)) (l:=fun k i=>iter (ts:=ou) (R:=Int) k (gM (some (-1))) d t r b.aU (b.aU.length:Int) i)
  (fun k=>by simp only [iter,gM,cg,cond_false]<;>rfl)
  (fun k i hi=>by
   simp only [iter,gM,share,cd hi,bO hi,cond_true,bN,bP hi,bQ hb hi];cases seq b.aU[i].cT d<;>cases seq b.aU[i].aY t<;>rfl) k (by omega)
theorem VX {α:Type} {P:α→Prop} {l:List α} {v:Int} {f:α→α} (h:∀ e,e∈l→P e) (hf:∀ e,e∈l→P (f e)):∀ y,y∈bA l v f→P y:=fun y hy=>by
 unfold bA at hy;obtain ⟨j,hj,rfl⟩:=List.getElem_of_mem hy;rw [List.getElem_modify];rw [List.length_modify] at hj;split
 ·exact hf _ (List.getElem_mem hj)
 ·exact h _ (List.getElem_mem hj)
theorem agc {α β:Type} {l:List α} {v:Int} {f:α→α} {g:α→β} (h:∀ e,g (f e)=g e):(bA l v f).map g=l.map g:=by
 unfold bA;refine List.ext_getElem (by simp) fun i h1 h2=>?_;rw [List.getElem_map,List.getElem_map,List.getElem_modify];split
 ·exact h _
 ·rfl
theorem EG {α:Type} {l:List α} {v:Int} {f:α→α}:(bA l v f).length=l.length:=by simp [bA]
theorem Zl {α β:Type} {p:α→Bool} {q:β→Bool}:∀ {x:List α} {y:List β} {i:Nat},x.map p=y.map q→tz p x i=tz q y i
 | [],[],_,_=>rfl
 | [],_::_,_,h=>by cases h
 | _::_,[],_,h=>by cases h
 | a::r,b::s,i,h=>by
  simp only [List.map_cons,List.cons.injEq] at h;simp only [tz,h.1,Zl h.2]
theorem VY {b:aI} {t r:Nm} (h:0≤nI b t r):bW (nI b t r) b.aK.length=true:=by
 rcases dG (fun g:aE=>seq g.aY t&&seq g.aL r) b.aK with ⟨h1,_⟩ | ⟨j,hj,h1,_⟩
 ·unfold nI at h;omega
 ·unfold nI;rw [h1];exact bO hj
theorem aeT {w:aT} {b:aI} (h:lT w b=true):∀ p,p∈b.aU→0≤nI b p.aY p.aL:=by
 have hc:chain (JO b) none b.aU=true:=by
  simp only [lT,BB,Bool.and_eq_true] at h;exact h.2.2.2.2.1
 have e:chain (JO b) none b.aU=(chain (fun _ a=>QI b a) none b.aU&&chain JN none b.aU):=qK (p:=fun _ a=>QI b a) (q:=JN) b.aU none;rw [e,tx,Bool.and_eq_true] at hc;intro p hp;have:=List.all_eq_true.1 hc.1 p hp;simp only [QI,Bool.and_eq_true,Bool.not_eq_true',bM,decide_eq_false_iff_not] at this;omega
theorem Zm:Zk.ok:=⟨AG.2 ⟨by decide,by decide⟩,AG.2 ⟨by decide,by decide⟩,AG.2 ⟨by decide,by decide⟩,⟨by decide,fun _ h=>by cases h⟩,⟨by decide,fun _ h=>by cases h⟩,⟨by decide,fun _ h=>by cases h⟩,⟨by decide,fun _ h=>by cases h⟩⟩
theorem Zn:Zk.sd:=⟨trivial,trivial,trivial,⟨by decide,fun _ h=>by cases h⟩,⟨by decide,fun _ h=>by cases h⟩,⟨by decide,fun _ h=>by cases h⟩,⟨by decide,fun _ h=>by cases h⟩⟩
theorem agd {b:aI} {d t r:Nm} (h:bM (H9 b d t r) 0=false):∃ j:Nat,j < b.aU.length∧H9 b d t r=(j:Int):=by
 rcases dG (fun p:aC=>seq p.cT d&&(seq p.aY t&&seq p.aL r)) b.aU with ⟨h1,_⟩ | ⟨j,hj,h1,_⟩
 ·unfold H9 at h;rw [h1] at h;cases h
 ·exact ⟨j,hj,h1⟩
theorem EH:∀ a b:List UInt8,(!(slt a b||seq a b))=slt b a
 | [],[]=>rfl
 | [],_::_=>rfl
 | _::_,[]=>rfl
 | a::r,b::s=>by
  have ih:=EH r s;simp only [slt,Op.bytesLess,seq] at *;rcases Nat.lt_trichotomy a.toNat b.toNat with h | h | h
  ·have h1:a < b:=h;have h2:¬ b < a:=fun h3=>by have h4:b.toNat < a.toNat:=h3;omega
   have h3:¬ b=a:=fun h3=>by subst h3;omega
   simp [h1,h2,h3]
  ·obtain rfl:a=b:=UInt8.toNat_inj.1 h;have h1:¬ a < a:=fun h3=>by have h4:a.toNat < a.toNat:=h3;omega
   simp only [h1,decide_false,Bool.false_or,beq_self_eq_true,Bool.true_and];rw [← ih];simp
  ·have h1:b < a:=h;have h2:¬ a < b:=fun h3=>by have h4:a.toNat < b.toNat:=h3;omega
   have h3:¬ a=b:=fun h3=>by subst h3;omega
   simp [h1,h2,h3]
theorem age (a b c d:Nm):bM 0 (QC a b c d)=qL c d a b:=by
 unfold QC qL Li;rw [← EH a c,← EH b d,xS c a];cases h1:slt a c<;>cases h2:seq a c<;>cases h3:slt b d<;>cases h4:seq b d<;>first | rfl | (have:=zj h2;rw [h1] at this;cases this)
theorem mod_mod {α:Type} {l:List α} {v:Int} {f g:α→α}:bA (bA l v f) v g=bA l v (fun e=>g (f e)):=by
 unfold bA;refine List.ext_getElem (by simp) fun i h1 h2=>?_;simp only [List.getElem_modify];split<;>rfl
def ahU (b:aI) (ls:List aE):aI:=⟨b.zR,b.ix,b.fX,b.aO,b.bK,ls,b.aU⟩
theorem abb {w:aT} {b:aI} (h:lT w b=true):b.aK.length≤10:=by
 simp only [lT,BB,Bool.and_eq_true] at h;have:=oU h.2.2.2.1.1;omega
def Zo (a b:aC):Int:=cond (!seq a.cT b.cT) (Li a.cT b.cT) (QC a.aY a.aL b.aY b.aL)
theorem Uy (k:Nat) (a b:aC):gz k a b=some (Zo a b):=by
 unfold gz Zo;cases seq a.cT b.cT<;>simp only [LF,LG,Option.bind_some,Bool.not_true,Bool.not_false,cond_true,cond_false]
theorem VZ (a b:aC):b6 0 (Zo a b)=!sw a b:=by
 obtain ⟨v,h1,h2⟩:=MJ 0 a b;rw [Uy] at h1;cases h1;exact h2
def AH (a b:aC):Bool:=seq a.cT b.cT&&(seq a.aY b.aY&&seq a.aL b.aL)
theorem QO (a b:Nm):bI (Li a b) 0=seq a b:=by
 unfold Li;cases h1:slt a b<;>cases h2:seq a b<;>first | rfl | (have:=zj h2;rw [h1] at this;cases this)
theorem adw (a b c d:Nm):bI (QC a b c d) 0=(seq a c&&seq b d):=by
 unfold QC;rw [QO];cases h:seq a c with
 | true=>exact QO b d
 | false=>simp only [Bool.not_false,cond_true,QO,h,Bool.false_and]
theorem Zp (a b:aC):bI (Zo a b) 0=AH a b:=by
 unfold Zo AH;cases h:seq a.cT b.cT with
 | true=>exact adw ..
 | false=>simp only [Bool.not_false,cond_true,QO,h,Bool.false_and]
theorem Zq {a b:aC} (h:AH a b=false):(!sw a b)=sw b a:=by
 unfold AH at h;unfold sw qL;rw [xS b.cT,← EH a.cT b.cT];cases h1:seq a.cT b.cT with
 | false=>
  simp only [Bool.not_false,cond_true];cases slt a.cT b.cT<;>rfl
 | true=>
  rw [h1] at h;simp only [Bool.true_and] at h;simp only [Bool.not_true,cond_false];rw [← EH a.aY b.aY,← EH a.aL b.aL,xS b.aY];cases h2:slt a.aY b.aY<;>cases h3:seq a.aY b.aY<;>cases h4:slt a.aL b.aL<;>cases h5:seq a.aL b.aL <;>
   first | rfl | (have:=zj h3;rw [h2] at this;exact absurd this (by decide)) | (have:=zj h5;rw [h4] at this;exact absurd this (by decide)) | (rw [h3,h5] at h;exact absurd h (by decide))
theorem abc {a b c:aC} (h1:sw a b=true) (h2:sw b c=true):sw a c=true:=by
 unfold sw at *;cases e1:seq a.cT b.cT with
 | true=>
  have e1':=cC.1 e1;rw [e1] at h1;rw [e1'];cases e2:seq b.cT c.cT with
  | true=>rw [e2] at h2;exact Sm h1 h2
  | false=>rw [e2] at h2;exact h2
 | false=>
  rw [e1] at h1;cases e2:seq b.cT c.cT with
  | true=>rw [← cC.1 e2,e1];exact h1
  | false=>
   rw [e2] at h2;have h3:slt a.cT c.cT=true:=Mm h1 h2;cases e3:seq a.cT c.cT with
   | true=>rw [zj e3] at h3;cases h3
   | false=>exact h3
theorem Xr {a b c:aC} (h:AH b c=true):sw a b=sw a c:=by
 unfold AH at h;simp only [Bool.and_eq_true] at h;unfold sw;rw [cC.1 h.1,cC.1 h.2.1,cC.1 h.2.2]
theorem JS {a b:aC} (h:AH a b=true):sw a b=false:=by
 unfold AH at h;simp only [Bool.and_eq_true] at h;unfold sw;rw [h.1,cC.1 h.2.1,cC.1 h.2.2];exact Px _ _
theorem Su:∀ {l:List aC} {q:Option aC},chain JN q l=true→∀ p,q=some p→∀ y,y∈l→sw p y=true
 | [],_,_,_,_,_,h=>by cases h
 | a::r,q,h,p,hp,y,hy=>by
  simp only [chain,Bool.and_eq_true] at h;subst hp;rcases List.mem_cons.1 hy with e | e
  ·exact e▸h.1
  ·exact abc h.1 (Su h.2 a rfl y e)
theorem MR:∀ {l:List aC} {q:Option aC},chain JN q l=true→∀ i j (hi:i < l.length) (hj:j < l.length),i < j→sw l[i] l[j]=true
 | [],_,_,i,_,hi,_,_=>absurd hi (by simp)
 | a::r,q,h,0,j+1,_,hj,_=>by
  simp only [chain,Bool.and_eq_true] at h;exact Su h.2 a rfl _ (List.getElem_mem _)
 | a::r,q,h,i+1,j+1,hi,hj,H_=>by
  simp only [chain,Bool.and_eq_true] at h;exact MR h.2 i j (by simpa using hi) (by simpa using hj) (by omega)
def DO (x:aC) (q:Bool×List aC) (y:aC):Bool×List aC:=cond (!q.1&&sw x y) (true,(q.2++[x])++[y]) (q.1,q.2++[y])
def wI (x:aC) (ls:List aC):Bool×List aC:=ls.foldl (DO x) (false,[])
def MS (x:aC) (ls:List aC):List aC:=cond (!(wI x ls).1) ((wI x ls).2++[x]) (wI x ls).2
theorem Sv (x:aC) (q:Bool×List aC) (y:aC):(DO x q y).2.length≤q.2.length+2:=by
 unfold DO;cases !q.1&&sw x y<;>simp
theorem DP {P:aC→Prop} {x:aC} (hx:P x):∀ (ls:List aC) (q:Bool×List aC),(∀ y,y∈ls→P y)→(∀ y,y∈q.2→P y)→(∀ y,y∈(ls.foldl (DO x) q).2→P y)∧(ls.foldl (DO x) q).2.length≤q.2.length+ls.length+cond q.1 0 1∧(q.1=true→(ls.foldl (DO x) q).1=true)∧((ls.foldl (DO x) q).1=false→(ls.foldl (DO x) q).2.length=q.2.length+ls.length)
 | [],q,_,hq=>⟨hq,by simp,id,fun _=>by simp⟩
 | a::r,q,hl,hq=>by
  have ha:=hl a (by simp);have hr:=fun y hy=>hl y (List.mem_cons_of_mem _ hy);simp only [List.foldl_cons];obtain ⟨d,o⟩:=q;cases d with
  | true=>
   obtain ⟨k1,k2,k3,k4⟩:=DP hx r (true,o++[a]) hr (fun y hy=>by simp only [List.mem_append,List.mem_singleton] at hy;rcases hy with h | rfl;exact hq y h;exact ha);rw [show DO x (true,o) a=(true,o++[a]) from rfl];refine ⟨k1,?_,fun _=>k3 rfl,fun h=>by rw [k3 rfl] at h;cases h⟩;simp only [List.length_append,List.length_singleton,cond_true] at k2;simp only [List.length_cons,cond_true];omega
  | false=>
   cases ht:sw x a with
   | true=>
    obtain ⟨k1,k2,k3,k4⟩:=DP hx r (true,(o++[x])++[a]) hr (fun y hy=>by
     simp only [List.mem_append,List.mem_singleton] at hy;rcases hy with (h | rfl) | rfl
     ·exact hq y h
     ·exact hx
     ·exact ha)
    rw [show DO x (false,o) a=(true,(o++[x])++[a]) by unfold DO;simp only [ht];rfl];refine ⟨k1,?_,(fun h=>by cases h),fun h=>by rw [k3 rfl] at h;cases h⟩;simp only [List.length_append,List.length_singleton,cond_true] at k2;simp only [List.length_cons,cond_false];omega
   | false=>
    obtain ⟨k1,k2,k3,k4⟩:=DP hx r (false,o++[a]) hr (fun y hy=>by simp only [List.mem_append,List.mem_singleton] at hy;rcases hy with h | rfl;exact hq y h;exact ha);rw [show DO x (false,o) a=(false,o++[a]) by unfold DO;simp only [ht];rfl];simp only [List.length_append,List.length_singleton,cond_false] at k2 k4;refine ⟨k1,?_,(fun h=>by cases h),fun h=>?_⟩
    ·simp only [List.length_cons,cond_false];omega
    ·have:=k4 h;simp only [List.length_cons];omega
theorem Sw {x:aC} {ls:List aC}:(wI x ls).2.length≤ls.length+1:=by
 obtain ⟨_,k2,_,_⟩:=DP (P:=fun _=>True) (x:=x) trivial ls (false,[]) (fun _ _=>trivial) (fun _ _=>trivial);change (wI x ls).2.length≤_ at k2;simp only [List.length_nil,cond_false] at k2;omega
theorem Sx {P:aC→Prop} {x:aC} {ls:List aC} (hx:P x) (hl:∀ y,y∈ls→P y):(∀ y,y∈MS x ls→P y)∧(MS x ls).length≤ls.length+1:=by
 obtain ⟨k1,k2,k3,k4⟩:=DP hx ls (false,[]) hl (fun y hy=>by cases hy);unfold MS;change (∀ y,y∈(wI x ls).2→P y) at k1;change (wI x ls).2.length≤_ at k2;change (wI x ls).1=false→(wI x ls).2.length=_ at k4;cases h:(wI x ls).1 with
 | true=>
  simp only [Bool.not_true,cond_false];exact ⟨k1,by simpa [Nat.add_comm] using k2⟩
 | false=>
  have k5:=k4 h;simp only [Bool.not_false,cond_true];refine ⟨fun y hy=>?_,by simp only [List.length_append,List.length_singleton,k5,List.length_nil];omega⟩;simp only [List.mem_append,List.mem_singleton] at hy;rcases hy with hy | rfl
  ·exact k1 y hy
  ·exact hx
theorem F9 {y:List aC} (h:y.length≤4000000) (z:aC):kW (y.length+([z]:List aC).length) 64=true:=lQ (by simp only [List.length_singleton];omega) (by omega)
theorem Xt {k:Nat} {x:aC} {ls:List aC} (hk:4194304≤k) (hl:ls.length≤1048576) (hn:∀ y,y∈ls→AH y x=false):nR k ls x=some (MS x ls):=by
 unfold nR;simp only [share];refine (fm (S:=Bool×List aC) (x:=ls) (B:=0) (f:=DO x) (l:=fun k s i=>iter (ts:=p6) (R:=List aC) k (gy fun adx Zr Uz=>cond (!adx) (bE (kW (Uz.length+([Zr]:List aC).length) 64) (some (Uz++([Zr]:List aC)))) (some Uz)) ls s.1 i x s.2)
  (J:=fun s=>cond (!s.1) (bE (kW (s.2.length+([x]:List aC).length) 64) (some (s.2++[x]))) (some s.2)) (fun i s=>s.2.length≤2*i)
  (fun k s _=>by simp only [iter,gy,cg,cond_false]<;>rfl)
  (fun k i s hi _ hI=>⟨by
   obtain ⟨d,o⟩:=s;simp only at hI;have hni:=hn _ (List.getElem_mem hi);simp only [iter,gy,share,cd hi,bO hi,cond_true,bN,bP hi,bQ hl hi,Uy,Option.bind_some,VZ,Zp,hni,Zq hni];have a2:=F9 (y:=o) (by omega) ls[i];have a4:=F9 (y:=o) (by omega) x;have a3:=F9 (y:=o++[x]) (by simp;omega) ls[i];unfold DO;rw [a2,a4];cases d with
   | true=>rfl
   | false=>cases sw x ls[i] with
    | true=>
     simp only [Bool.not_false,cond_true,Bool.and_self,bN];rw [a3];rfl
    | false=>rfl,by have:=Sv x s ls[i];omega⟩) k (false,[]) (by omega) (by simp)).trans ?_
 show cond (!(wI x ls).1) (bE (kW ((wI x ls).2.length+1) 64) (some ((wI x ls).2++[x]))) (some (wI x ls).2)=_;have:=Sw (x:=x) (ls:=ls);have a1:=F9 (y:=(wI x ls).2) (by omega) x;rw [show (wI x ls).2.length+1=(wI x ls).2.length+([x]:List aC).length from rfl,a1];unfold MS;cases (wI x ls).1<;>rfl
theorem Xu {k i:Nat} {x:aC} {ls:List aC} (hk:4194304≤k) (hl:ls.length≤1048576) (hc:chain JN none ls=true) (hi:i < ls.length) (hs:AH ls[i] x=true):nR k ls x=some (ls.set i x):=by
 have lt:∀ j (hj:j < ls.length),j < i→sw ls[j] x=true:=fun j hj h=>by rw [← Xr hs];exact MR hc j i hj hi h
 have ne:∀ j (hj:j < ls.length),j≠i→AH ls[j] x=false:=fun j hj h=>by
  rcases Nat.lt_or_gt_of_ne h with h1 | h1
  ·cases e:AH ls[j] x with
   | false=>rfl
   | true=>have:=lt j hj h1;rw [JS e] at this;cases this
  ·cases e:AH ls[j] x with
   | false=>rfl
   | true=>
    have h2:=MR hc i j hi hj h1;have h3:AH ls[i] ls[j]=true:=by
     simp only [AH,Bool.and_eq_true] at hs e ⊢;rw [cC.1 hs.1,cC.1 hs.2.1,cC.1 hs.2.2,cC.1 e.1,cC.1 e.2.1,cC.1 e.2.2];exact ⟨cC.2 rfl,cC.2 rfl,cC.2 rfl⟩
    rw [JS h3] at h2;cases h2
 unfold nR;simp only [share];have h:=Qt (R:=Option (List aC)) (S:=Bool×List aC) (x:=ls) (B:=0) (fun j=>(decide (i < j),(ls.set i x).take j)) (l:=fun k s j=>iter (ts:=p6) (R:=List aC) k (gy fun adx Zr Uz=>cond (!adx) (bE (kW (Uz.length+([Zr]:List aC).length) 64) (some (Uz++([Zr]:List aC)))) (some Uz)) ls s.1 j x s.2)
  (E:=some (ls.set i x))
  (fun k=>by
   have e:(ls.set i x).take ls.length=ls.set i x:=List.take_of_length_le (by simp);simp only [iter,gy,cg,cond_false,hi,decide_true,Bool.not_true,e]<;>rfl)
  (fun k j hj _=>by
   have OG:j < (ls.set i x).length:=by simpa using hj
   have Ok:((ls.set i x).take j).length≤4000000:=by simp;omega
   have e:(ls.set i x).take (j+1)=(ls.set i x).take j++[(ls.set i x)[j]]:=by rw [List.take_succ_eq_append_getElem OG]
   simp only [iter,gy,share,cd hj,bO hj,cond_true,bN,bP hj,bQ hl hj,Uy,Option.bind_some,VZ,Zp];have a2:=F9 Ok ls[j];have a4:=F9 Ok x;rw [e,List.getElem_set];rcases Nat.lt_trichotomy j i with h | h | h
   ·have d1:decide (i < j)=false:=by simp;omega
    have d2:decide (i < j+1)=false:=by simp;omega
    rw [d1,d2,lt j hj h,ne j hj (by omega),a2,if_neg (by omega)];rfl
   ·subst h;have d1:decide (j < j)=false:=by simp
    have d2:decide (j < j+1)=true:=by simp
    rw [d1,d2,JS hs,hs,a4,if_pos rfl];rfl
   ·have d1:decide (i < j)=true:=by simp;omega
    have d2:decide (i < j+1)=true:=by simp;omega
    rw [d1,d2,ne j hj (by omega),a2,if_neg (by omega)];rfl) k (by omega)
 simpa using h
abbrev BqT:Type:=Int×Int×Int×List aA×List aG×List aE×List aC×List aC
theorem UA {k:Nat} {x:aC} {n1 n2 n3:Int} {os:List aA} {gs:List aG} {ls:List aE} {ps:List aC} (hk:4194304≤k) (hl:ps.length≤1048576):gN k x n1 n2 n3 os gs ls ps=some (n1,n2,n3,os,gs,ls,ps,MS x ps):=by
 unfold gN;simp only [share];refine (fm (S:=Bool×List aC) (x:=ps) (B:=0) (f:=DO x) (l:=fun k s i=>iter (ts:=lZ) (R:=BqT) k (fc fun aeU agH aeV aeW aeX aeY aeZ ae0 ae1 ady=>cond (!agH) (bE (kW (ady.length+([aeU]:List aC).length) 64) (some (aeV,aeW,aeX,aeY,aeZ,ae0,ae1,ady++([aeU]:List aC)))) (some (aeV,aeW,aeX,aeY,aeZ,ae0,ae1,ady))) x s.1 (ps.length:Int) i n1 n2 n3 os gs ls ps s.2)
  (J:=fun s=>cond (!s.1) (bE (kW (s.2.length+([x]:List aC).length) 64) (some (n1,n2,n3,os,gs,ls,ps,s.2++[x]))) (some (n1,n2,n3,os,gs,ls,ps,s.2))) (fun i s=>s.2.length≤2*i)
  (fun k s _=>by simp only [iter,fc,cg,cond_false]<;>rfl)
  (fun k i s hi _ hI=>⟨by
   obtain ⟨d,o⟩:=s;simp only at hI;simp only [iter,fc,share,cd hi,bO hi,cond_true,bN,bP hi,bQ hl hi,F7,Option.bind_some];have a2:=F9 (y:=o) (by omega) ps[i];have a4:=F9 (y:=o) (by omega) x;have a3:=F9 (y:=o++[x]) (by simp;omega) ps[i];unfold DO;rw [a2,a3,a4];cases d with
   | true=>rfl
   | false=>cases sw x ps[i]<;>rfl,by have:=Sv x s ps[i];omega⟩) k (false,[]) (by omega) (by simp)).trans ?_
 show cond (!(wI x ps).1) (bE (kW ((wI x ps).2.length+([x]:List aC).length) 64) (some (n1,n2,n3,os,gs,ls,ps,(wI x ps).2++[x]))) (some (n1,n2,n3,os,gs,ls,ps,(wI x ps).2))=_;have:=Sw (x:=x) (ls:=ps);rw [F9 (y:=(wI x ps).2) (by omega) x];unfold MS;cases (wI x ps).1<;>rfl
def AI (ls:List aE) (v n:Int):List aE:=bA ls v (fun e=>⟨e.aY,e.aL,e.bU,bS .i64 (nth (default:aE) ls v).dP n⟩)
def abd (b:aI) (d t r:Nm) (n:Int):aC:=⟨d,t,r,n,aN .i64 b.ix 10⟩
def Zs (b:aI) (d t r:Nm) (n:Int):aC:=⟨d,t,r,aN .i64 n (nth (default:aC) b.aU (H9 b d t r)).cm,aN .i64 b.ix 10⟩
def Sy (b:aI) (t r:Nm) (n:Int) (ps:List aC):aI:=⟨b.zR,b.ix,b.fX,b.aO,b.bK,AI b.aK (nI b t r) n,ps⟩
def Sz (b:aI) (d t r:Nm) (n:Int):aI×Int:=
 cond (!cw d||(bM (nI b t r) 0||!(b6 1 n&&b6 n 1000000))) (b,2) (cond (bM (nth (default:aE) b.aK (nI b t r)).dP n) (b,3)
  (cond (bM (H9 b d t r) 0) (cond (b6 24 (b.aU.length:Int)) (b,4) (Sy b t r n (MS (abd b d t r n) b.aU),0)) (Sy b t r n (b.aU.set (H9 b d t r).toNat (Zs b d t r n)),0)))
def jD (w:aT) (b:aI) (d t r:Nm) (n:Int):aI×Int:=cond (lT w b) (Sz b d t r n) (Zk,1)
theorem UB {w:aT} {b:aI} (h:lT w b=true):chain JN none b.aU=true:=by
 have hc:chain (JO b) none b.aU=true:=by
  simp only [lT,BB,Bool.and_eq_true] at h;exact h.2.2.2.2.1
 have e:chain (JO b) none b.aU=(chain (fun _ a=>QI b a) none b.aU&&chain JN none b.aU):=qK (p:=fun _ a=>QI b a) (q:=JN) b.aU none;rw [e,Bool.and_eq_true] at hc;exact hc.2
theorem DQ {w:aT} {b:aI} (h:lT w b=true):b.aU.length≤24:=by
 simp only [lT,BB,Bool.and_eq_true] at h;have:=oU h.2.2.2.1.2;omega
theorem adz {n:Nat} (h:n≤24):bI (n:Int) 24=b6 24 (n:Int):=by
 simp only [bI,b6];by_cases e:n=24
 ·subst e;rfl
 ·have h1:¬ (n:Int)=24:=by omega
  have h2:¬ (24:Int)≤(n:Int):=by omega
  simp [h1,h2]
theorem PA (b:aI) (d t r:Nm):(H9 b d t r=-1∧∀ y,y∈b.aU→∀ m u,AH y ⟨d,t,r,m,u⟩=false)∨∃ j:Nat,∃ hj:j < b.aU.length,H9 b d t r=(j:Int)∧∀ m u,AH b.aU[j] ⟨d,t,r,m,u⟩=true:=by
 rcases dG (fun p:aC=>seq p.cT d&&(seq p.aY t&&seq p.aL r)) b.aU with ⟨h1,h2⟩ | ⟨j,hj,h1,_,h2⟩
 ·refine .inl ⟨h1,fun y hy m u=>?_⟩;have:=List.find?_eq_none.1 h2 y hy;simpa [AH] using this
 ·exact .inr ⟨j,hj,h1,fun m u=>h2⟩
theorem T9 {k:Nat} {w:aT} {b:aI} {d t r:Nm} {n:Int} (hk:4194304*12≤k) (hw:w.sd) (hb:b.sd) (hd:dd d):l_ k w b d t r n=some (aaY (jD w b d t r n).1 (jD w b d t r n).2):=by
 have hp:=hb.2.2.2.2.2.2.1;have hl:=hb.2.2.2.2.2.1.1;unfold l_ jD;rw [QJ hk hw hb,Xp (by omega) hb];cases u9:lT w b with
 | false=>rfl
 | true=>
  simp only [Option.bind_some,Bool.not_true,cond_false,cond_true,share,ea (show 4194304≤k by omega) hd,Le,MI (show 4194304≤k by omega) hl,Xq (show 4194304≤k by omega) hp,MO];unfold Sz;cases hn:cw d with
  | false=>rfl
  | true=>
   cases hlo:bM (nI b t r) 0 with
   | true=>rfl
   | false=>
    have hv:bW (nI b t r) b.aK.length=true:=VY (by simp only [bM,decide_eq_false_iff_not] at hlo;omega);cases PB:(b6 1 n&&b6 n 1000000) with
    | false=>rfl
    | true=>
     simp only [Bool.not_true,Bool.or_false,cond_false,hv,bN];cases hf:bM (nth (default:aE) b.aK (nI b t r)).dP n with
     | true=>rfl
     | false=>
      simp only [cond_false];rcases PA b d t r with ⟨e,oV⟩ | ⟨j,hj,e,hsm⟩
      ·rw [e];have e1:bM (-1) 0=true:=rfl;have e2:b6 0 (-1)=false:=rfl;simp only [e1,e2,cond_true,cond_false];cases b6 24 (b.aU.length:Int) with
       | true=>rfl
       | false=>
        simp only [cond_false];rw [Xt (by omega) hp fun y hy=>oV y hy _ _];rfl
      ·rw [e];have e1:bM (j:Int) 0=false:=by simp [bM]
       have e2:b6 0 (j:Int)=true:=by simp [b6]
       simp only [e1,e2,cond_true,cond_false,bO hj,bN];rw [Xu (by omega) hp (UB u9) hj (hsm _ _)];unfold Sy Zs;rw [e];rfl
theorem V0 {k:Nat} {n1 n2 n3 l n:Int} {os:List aA} {gs:List aG} {ls:List aE} {ps:List aC}:gx k 0 n1 n2 n3 l n os gs ls ps=some (0,n1,n2,n3,l,n,os,gs,ls,ps):=rfl
theorem abe {k:Nat} {n1 n2 n3 l n:Int} {os:List aA} {gs:List aG} {ls:List aE} {ps:List aC} (h:bW l ls.length=true):gx k 4 n1 n2 n3 l n os gs ls ps=some (4,n1,n2,n3,l,n,os,gs,bA ls l (fun e=>(⟨e.aY,e.aL,e.bU,aN .i64 (nth (default:aE) ls l).dP n⟩:aE)),ps):=by
 unfold gx;rw [h];rfl
theorem Xv {b:aI} {t r:Nm} {n:Int} (hb:b.ok) (h0:bM (nI b t r) 0=false) (hn:(b6 1 n&&b6 n 1000000)=true) (hf:bM (nth (default:aE) b.aK (nI b t r)).dP n=false):
  bA (AI b.aK (nI b t r) n) (nI b t r) (fun e=>(⟨e.aY,e.aL,e.bU,aN .i64 (nth (default:aE) (AI b.aK (nI b t r) n) (nI b t r)).dP n⟩:aE))=b.aK:=by
 rcases dG (fun g:aE=>seq g.aY t&&seq g.aL r) b.aK with ⟨h1,_⟩ | ⟨j,hj,h1,_⟩
 ·unfold nI at h0;rw [h1] at h0;cases h0
 ·have e:nI b t r=(j:Int):=h1;rw [e] at hf ⊢;rw [bP hj] at hf;have OG:j < (AI b.aK (j:Int) n).length:=by unfold AI;rw [EG];exact hj
  have e2:(AI b.aK (j:Int) n)[j].dP=bS .i64 b.aK[j].dP n:=by
   simp only [AI,bA,List.getElem_modify,Int.toNat_natCast,if_true,bP hj]
  have hF:=(hb.2.2.2.2.2.1.2 _ (List.getElem_mem hj)).2.2.2;simp only [AG] at hF;simp only [Bool.and_eq_true,b6,decide_eq_true_eq] at hn;simp only [bM,decide_eq_false_iff_not] at hf;have e3:aN .i64 (bS .i64 b.aK[j].dP n) n=b.aK[j].dP:=by
   have:bS .i64 b.aK[j].dP n=b.aK[j].dP-n:=pZ (by omega) (by omega);rw [this];have:aN .i64 (b.aK[j].dP-n) n=b.aK[j].dP-n+n:=pZ (by omega) (by omega);omega
  rw [bP OG,e2,e3];unfold AI;rw [mod_mod];unfold bA;refine List.ext_getElem (by simp) fun i h1 h2=>?_;rw [List.getElem_modify];split
  ·rename_i h3;rw [Int.toNat_natCast] at h3;subst h3;rfl
  ·rfl
theorem abf {b:aI} {d t r:Nm} {n:Int} {j:Nat} (hj:j < b.aU.length) (e:H9 b d t r=(j:Int)) (hs:∀ m u,AH b.aU[j] ⟨d,t,r,m,u⟩=true):
  bA (bA b.aU (j:Int) (fun e=>(⟨e.cT,e.aY,e.aL,aN .i64 (nth (default:aC) b.aU (j:Int)).cm n,e.ez⟩:aC))) (j:Int) (fun e=>(⟨e.cT,e.aY,e.aL,e.cm,aN .i64 b.ix 10⟩:aC))=b.aU.set j (Zs b d t r n):=by
 rw [mod_mod];unfold bA Zs;rw [e];refine List.ext_getElem (by simp) fun i h1 h2=>?_;simp only [List.getElem_modify,List.getElem_set,Int.toNat_natCast];split
 ·rename_i h3;subst h3;have h4:=hs 0 0;simp only [AH,Bool.and_eq_true] at h4;rw [cC.1 h4.1,cC.1 h4.2.1,cC.1 h4.2.2];simp only [aN,Int.add_comm]
 ·rfl
theorem T_ {k:Nat} {w:aT} {b:aI} {d t r:Nm} {n:Int} (hk:4194304*12≤k) (hw:w.sd) (hb:b.sd) (ho:b.ok) (hd:dd d):iG k w b d t r n=some (aaY (jD w b d t r n).1 (jD w b d t r n).2):=by
 have hp:=hb.2.2.2.2.2.2.1;have hl:=hb.2.2.2.2.2.1.1;unfold iG jD;rw [QK hk hw hb,St (by omega) hb];have e0:(⟨(MO b).1,(MO b).2.1,(MO b).2.2.1,(MO b).2.2.2.1,(MO b).2.2.2.2.1,(MO b).2.2.2.2.2.1,(MO b).2.2.2.2.2.2⟩:aI)=b:=rfl;cases u9:lT w b with
 | false=>rfl
 | true=>
  simp only [Option.bind_some,Bool.not_true,cond_false,cond_true,share,e0,fP (show 4194304≤k by omega) hd,Sn (show 4194304≤k by omega) hl];simp only [MO];unfold Sz;cases hn:cw d with
  | false=>rfl
  | true=>
   cases hlo:bM (nI b t r) 0 with
   | true=>rfl
   | false=>
    have hv:bW (nI b t r) b.aK.length=true:=VY (by simp only [bM,decide_eq_false_iff_not] at hlo;omega);have hp':∀ ls:List aE,gD k (⟨b.zR,b.ix,b.fX,b.aO,b.bK,ls,b.aU⟩:aI) d t r=some (H9 b d t r):=fun ls=>aba (by omega) hp;have i1:bM n 1=!b6 1 n:=by simp only [bM,b6];by_cases h:n < 1<;>simp [h]<;>omega
    have i2:bM 1000000 n=!b6 n 1000000:=by simp only [bM,b6];by_cases h:1000000 < n<;>simp [h]<;>omega
    rw [i1,i2];cases hi1:b6 1 n with
    | false=>rfl
    | true=>
     cases R6:b6 n 1000000 with
     | false=>rfl
     | true=>
      simp only [Bool.not_true,Bool.or_false,Bool.and_self,cond_false,hv,bN];cases hf:bM (nth (default:aE) b.aK (nI b t r)).dP n with
      | true=>rfl
      | false=>
       simp only [cond_false,hp',Option.bind_some,adz (DQ u9)];have hv2:bW (nI b t r) (AI b.aK (nI b t r) n).length=true:=by unfold AI;rw [EG];exact hv
       rcases PA b d t r with ⟨e,oV⟩ | ⟨j,hj,e,hsm⟩
       ·rw [e];have e1:bM (-1) 0=true:=rfl;simp only [e1,cond_true];cases b6 24 (b.aU.length:Int) with
        | true=>
         simp only [cond_true];have u:=abe (k:=k) (n1:=b.zR) (n2:=b.ix) (n3:=b.fX) (n:=n) (os:=b.aO) (gs:=b.bK) (ps:=b.aU) hv2;rw [Xv ho hlo (by rw [hi1,R6];rfl) hf] at u;unfold AI at u;rw [u];simp only [Option.bind_some,fE,bN,EG];rfl
        | false=>
         simp only [cond_false];rw [UA (by omega) hp];simp only [Option.bind_some,fE,bN,V0];rfl
       ·rw [e];have e1:bM (j:Int) 0=false:=by simp [bM]
        simp only [e1,cond_false,bO hj,bN,EG,V0,Option.bind_some,fE];rw [abf hj e hsm];rfl
theorem SA {α:Type} {P:α→Prop} {l:List α} {i:Nat} {x:α} (h:∀ y,y∈l→P y) (hx:P x):∀ y,y∈l.set i x→P y:=fun y hy=>by
 rcases List.mem_or_eq_of_mem_set hy with h1 | h1
 ·exact h y h1
 ·rw [h1];exact hx
theorem PC {P:aI→Prop} {b:aI} {d t r:Nm} {n:Int} (h0:P b) (h1:P (Sy b t r n (MS (abd b d t r n) b.aU))) (h2:P (Sy b t r n (b.aU.set (H9 b d t r).toNat (Zs b d t r n)))):P (Sz b d t r n).1:=by
 unfold Sz;cases !cw d||(bM (nI b t r) 0||!(b6 1 n&&b6 n 1000000)) with
 | true=>exact h0
 | false=>cases bM (nth (default:aE) b.aK (nI b t r)).dP n with
  | true=>exact h0
  | false=>cases bM (H9 b d t r) 0 with
   | true=>cases b6 24 (b.aU.length:Int) with
    | true=>exact h0
    | false=>exact h1
   | false=>exact h2
theorem YU {w:aT} {b:aI} {d t r:Nm} {n:Int} (hd:dC d) (ht:dC t) (hr:dC r) (hn:kA .i64 n) (h:b.ok):(jD w b d t r n).1.ok:=by
 unfold jD;cases u9:lT w b with
 | false=>exact Zm
 | true=>
  obtain ⟨a1,a2,a3,a4,a5,a6,a7⟩:=h;have hle:EW aE.ok (AI b.aK (nI b t r) n):=⟨by show (bA b.aK _ _).length≤_;rw [EG];exact a6.1,VX a6.2 fun e he=>⟨(a6.2 e he).1,(a6.2 e he).2.1,(a6.2 e he).2.2.1,Ux _ _⟩⟩;obtain ⟨k1,k2⟩:=Sx (P:=aC.ok) (x:=abd b d t r n) (ls:=b.aU) ⟨hd,ht,hr,hn,GK _ _⟩ a7.2;exact PC (P:=aI.ok) ⟨a1,a2,a3,a4,a5,a6,a7⟩ ⟨a1,a2,a3,a4,a5,hle,⟨by have:=DQ u9;have:=max_eq;show (MS _ b.aU).length≤maxLen;omega,k1⟩⟩
   ⟨a1,a2,a3,a4,a5,hle,⟨by show (List.set _ _ _).length≤_;rw [List.length_set];exact a7.1,SA a7.2 ⟨hd,ht,hr,GK _ _,GK _ _⟩⟩⟩
theorem YT {w:aT} {b:aI} {d t r:Nm} {n:Int} (hd:dd d) (ht:dd t) (hr:dd r) (h:b.sd):(jD w b d t r n).1.sd:=by
 unfold jD;cases u9:lT w b with
 | false=>exact Zn
 | true=>
  obtain ⟨a1,a2,a3,a4,a5,a6,a7⟩:=h;have hle:k_ aE.sd (AI b.aK (nI b t r) n):=⟨by show (bA b.aK _ _).length≤_;rw [EG];exact a6.1,VX a6.2 fun e he=>a6.2 e he⟩;obtain ⟨k1,k2⟩:=Sx (P:=aC.sd) (x:=abd b d t r n) (ls:=b.aU) ⟨hd,ht,hr,trivial,trivial⟩ a7.2;exact PC (P:=aI.sd) ⟨a1,a2,a3,a4,a5,a6,a7⟩ ⟨a1,a2,a3,a4,a5,hle,⟨by have:=DQ u9;show (MS _ b.aU).length≤1048576;omega,k1⟩⟩
   ⟨a1,a2,a3,a4,a5,hle,⟨by show (List.set _ _ _).length≤_;rw [List.length_set];exact a7.1,SA a7.2 ⟨hd,ht,hr,trivial,trivial⟩⟩⟩
end Go.Proofs.YtjkbbdldmdajkaaGreatDoor.Pu
