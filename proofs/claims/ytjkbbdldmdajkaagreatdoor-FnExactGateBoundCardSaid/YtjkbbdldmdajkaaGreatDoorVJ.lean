/- The evaluator of operations, and that it is sound: all but calls. No condition. -/
import Derived.Test.YtjkbbdldmdajkaaGreatDoorVIB
namespace Go.Proofs.YtjkbbdldmdajkaaGreatDoor.c_
open Go Go.RowKit
variable {w w' xh:World} {F F' Bn O O' vW:Nat→Prop} {μ bD lF:Nat→Nat} {K K' EB:Nat→Prop} {ft bY:Nat→Nat→Prop} {P:Program} {R:Type}
def aZ (b:Bool) (x:Option R):Option R:=cond b x none
theorem gb {b:Bool} {x:Option R} {r:R} (h:aZ b x=some r):b=true∧x=some r:=by
 cases b
 ·cases h
 ·exact ⟨rfl,h⟩
def bW (i:Int) (n:Nat):Bool:=decide (0≤i)&&decide (i < n)
theorem RD {i:Int} {n:Nat} (h:bW i n=true):0≤i∧i < n:=by simpa [bW] using h
def O5 (l h:Int) (n:Nat):Bool:=decide (0≤l)&&(decide (l≤h)&&decide (h≤n))
theorem Wx {l h:Int} {n:Nat} (e:O5 l h n=true):0≤l∧l≤h∧h≤n:=by simpa [O5] using e
def QC (m n:List UInt8):Bool:=decide (m.length+n.length < 1099511627776)
def GP (l c:Int) (bytes:Nat):Bool:=decide (0≤l)&&(decide (l≤c)&&(decide (c*(bytes:Int)≤140737488355328)&&decide (c≤140737488355328)))
theorem Vo {l c:Int} {n:Nat} (e:GP l c n=true):0≤l∧l≤c∧c*(n:Int)≤140737488355328∧c≤140737488355328:=by simpa [GP] using e
def mv (n bytes:Nat):Bool:=decide (n*bytes≤70368744177664)&&decide (n≤70368744177664)
theorem abZ {n b:Nat} (e:mv n b=true):n*b≤70368744177664∧n≤70368744177664:=by simpa [mv] using e
def nth {α:Type} (d:α) (xs:List α) (i:Int):α:=xs.getD i.toNat d
def oI {α:Type} (xs:List α) (i:Int) (x:α):List α:=xs.set i.toNat x
structure Env where
 P:Program
 tc:List (Nat×Ty)
 mt:List (TypeId×String×FuncId)
 fz:List Nat
 mp:List (TypeId×Nat)
 dp:List Nat:=[]
def L4:List (Nat×Ty)→Nat→Option Ty
 | [],_=>none
 | (i,t)::r,k=>match Nat.beq k i with
  | true=>some t
  | false=>L4 r k
def wa (P:Program) (o:Oper) (s:bP) (κ:cx→Option R) (x:R):Prop:=∃ r,TOk P o s r∧NM s r∧κ r=some x
theorem kJ {o:Oper} {s:bP} {κ:cx→Option R} {x:R} {rv:AV} {v:TA} (hk:κ ⟨v,[],0⟩=some x) (h:dr P o s.st ⟨rv,[],[]⟩) (hv:ik rv (v.av s.H)) (hw:v.wf s.H s.N):wa P o s κ x:=
 ⟨_,abV h hv,aao hw,hk⟩
theorem tf {o:Oper} {s:bP} {κ:cx→Option R} {x:R} {v:TA} (hk:κ ⟨v,[],0⟩=some x) (h:dr P o s.st ⟨v.av s.H,[],[]⟩) (hw:v.wf s.H s.N):wa P o s κ x:=
 kJ hk h (ik.refl _) hw
theorem oC {o:Oper} {s:bP} {κ:cx→Option R} {x:R} {y:cN} (hk:κ ⟨.d y,[],0⟩=some x) (h:dr P o s.st ⟨cT y,[],[]⟩):wa P o s κ x:=
 tf hk (by simpa only [TA.av] using h) (by simp only [TA.wf])
def afo (op:BinOp) (k:IntKind) (m n:Int):Option cN:=
 match op with
 | .add=>some ⟨.int k,aP k m n⟩
 | .sub=>some ⟨.int k,bO k m n⟩
 | .mul=>some ⟨.int k,Xk k m n⟩
 | .and=>some ⟨.int k,afa k m n⟩
 | .or=>some ⟨.int k,bOr k m n⟩
 | .xor=>some ⟨.int k,afb k m n⟩
 | .eql=>some ⟨.bool,bH m n⟩
 | .neq=>some ⟨.bool,!bH m n⟩
 | .lss=>some ⟨.bool,bK m n⟩
 | .leq=>some ⟨.bool,b8 m n⟩
 | .gtr=>some ⟨.bool,bK n m⟩
 | .geq=>some ⟨.bool,b8 n m⟩
 | _=>none
theorem ab0 {op:BinOp} {k:IntKind} {m n:Int} {y:cN} (h:afo op k m n=some y):aaf op k m n=some (cT y):=by
 cases op<;>cases h<;>rfl
def afp (op:BinOp) (k:IntKind) (m n:Int):Option cN:=
 match op with
 | .quo=>some ⟨.int k,Sk k m n⟩
 | .rem=>some ⟨.int k,xp m n⟩
 | _=>none
theorem ab1 {op:BinOp} {k:IntKind} {m n:Int} {y:cN} (h:afp op k m n=some y):aag op k m n=some (cT y):=by
 cases op<;>cases h<;>rfl
def aap (op:BinOp) (k:IntKind) (m n:Int):Option cN:=
 match op with
 | .shl=>some ⟨.int k,afc k m n⟩
 | .shr=>some ⟨.int k,afd k m n⟩
 | _=>none
theorem Ye {op:BinOp} {k:IntKind} {m n:Int} {y:cN} (h:aap op k m n=some y):Rq op k m n=some (cT y):=by
 cases op<;>cases h<;>rfl
def afq (op:BinOp) (m n:List UInt8):Option cN:=
 match op with
 | .eql=>some ⟨.bool,seq m n⟩
 | .neq=>some ⟨.bool,!seq m n⟩
 | .lss=>some ⟨.bool,slt m n⟩
 | .leq=>some ⟨.bool,slt m n||seq m n⟩
 | .gtr=>some ⟨.bool,!(slt m n||seq m n)⟩
 | .geq=>some ⟨.bool,!slt m n⟩
 | _=>none
theorem ab2 {op:BinOp} {m n:List UInt8} {y:cN} (h:afq op m n=some y):aai op m n=some (cT y):=by
 cases op<;>cases h<;>rfl
def ac8 (op:BinOp) (m n:Bool):Option cN:=
 match op with
 | .eql=>some ⟨.bool,beq m n⟩
 | .neq=>some ⟨.bool,!beq m n⟩
 | _=>none
theorem aaq {op:BinOp} {m n:Bool} {y:cN} (h:ac8 op m n=some y):Vb op m n=some (cT y):=by
 cases op<;>cases h<;>rfl
def isAdd:BinOp→Bool
 | .add=>true
 | _=>false
def ab3:Option TypeDesc→Bool
 | some .bool=>true
 | _=>false
def aar (P:Program) (op:BinOp) (t:TypeId) (x y:TA) (κ:cx→Option R):Option R:=
 match x,y with
 | .d ⟨.int k,m⟩,.d ⟨.int k',n⟩=>match aap op k m n with
  | some r=>aZ (b8 0 n) (κ ⟨.d r,[],0⟩)
  | none=>if k=k' then (match afo op k m n with
   | some r=>κ ⟨.d r,[],0⟩
   | none=>match afp op k m n with
    | some r=>aZ (!bH n 0) (κ ⟨.d r,[],0⟩)
    | none=>none) else none
 | .d ⟨.str,m⟩,.d ⟨.str,n⟩=>match afq op m n with
  | some r=>κ ⟨.d r,[],0⟩
  | none=>if isAdd op then aZ (QC m n) (κ ⟨.d ⟨.str,List.append (α:=UInt8) m n⟩,[],0⟩) else none
 | .d ⟨.bool,m⟩,.d ⟨.bool,n⟩=>if ab3 (P.underlying t) then (match ac8 op m n with
  | some r=>κ ⟨.d r,[],0⟩
  | none=>none) else none
 | _,_=>none
theorem aas {o:Oper} {s:bP} {κ:cx→Option R} {z:R} {op:BinOp} {t u:TypeId} {x y:Operand} (ho:o.op=.binOp op t x y u) (h:aar P op t (s.val x) (s.val y) κ=some z):wa P o s κ z:=by
 unfold aar at h;split at h
 ·rename_i k m k' n hx hy;have h1:ee s.st x (.int k m):=bX hx;have h2:ee s.st y (.int k' n):=bX hy;split at h
  ·rename_i r hr;obtain ⟨e,h⟩:=gb h;exact oC h (aah ho h1 h2 (Ye hr) (by simpa [b8] using e))
  ·split at h
   ·rename_i e;subst e;split at h
    ·rename_i r hr;exact oC h (adZ ho h1 h2 (ab0 hr))
    ·split at h
     ·rename_i r hr;obtain ⟨e,h⟩:=gb h;exact oC h (ad0 ho h1 h2 (ab1 hr) (by intro h0;simp [bH,h0] at e))
     ·cases h
   ·cases h
 ·rename_i m n hx hy;have h1:ee s.st x (.str m):=bX hx;have h2:ee s.st y (.str n):=bX hy;split at h
  ·rename_i r hr;exact oC h (ad1 ho h1 h2 (ab2 hr))
  ·split at h
   ·rename_i ha;have:op=.add:=by cases op<;>simp [isAdd] at ha<;>rfl
    subst this;obtain ⟨e,h⟩:=gb h;exact oC h (ad2 ho h1 h2 (by simpa [QC] using e))
   ·cases h
 ·rename_i m n hx hy;have h1:ee s.st x (.bool m):=bX hx;have h2:ee s.st y (.bool n):=bX hy;split at h
  ·rename_i ht;have XT:P.underlying t=some .bool:=by
    generalize P.underlying t=q at ht
    match q,ht with
    | some .bool,_=>rfl
   split at h
   ·rename_i r hr;exact oC h (abO ho h1 h2 XT (aaq hr))
   ·cases h
  ·cases h
 ·cases h
def Vp (c x y:TA) (κ:cx→Option R):Option R:=
 match c with
 | .d ⟨.bool,d⟩=>match x,y with
  | .d ⟨.bool,p⟩,.d ⟨.bool,q⟩=>κ ⟨.d ⟨.bool,cond (d:Bool) (p:Bool) (q:Bool)⟩,[],0⟩
  | x,y=>cond (d:Bool) (κ ⟨x,[],0⟩) (κ ⟨y,[],0⟩)
 | _=>none
theorem NQ {o:Oper} {s:fU} {c x y:Operand} {v:AV} {d:Bool} (ho:o.op=.pick c x y) (hc:ee s c (.bool d)) (h:ee s (if d then x else y) v):dr P o s ⟨v,[],[]⟩:=
 b6 fun {w F O μ K ft a} hs=>by
  have e:=(hc hs).fe;cases d with
  | true=>exact ⟨a.eval x,by simp only [execOp,ho,e,asBool];rfl,h hs⟩
  | false=>exact ⟨a.eval y,by simp only [execOp,ho,e,asBool];rfl,h hs⟩
theorem Yf {o:Oper} {s:bP} {κ:cx→Option R} {z:R} {c x y:Operand} (ho:o.op=.pick c x y) (hs:s.ok) (h:Vp (s.val c) (s.val x) (s.val y) κ=some z):wa P o s κ z:=by
 unfold Vp at h;split at h
 ·rename_i d hc;have h0:ee s.st c (.bool d):=bX hc;split at h
  ·rename_i p q hx hy;have h1:ee s.st x (.bool p):=bX hx;have h2:ee s.st y (.bool q):=bX hy;refine oC h (NQ ho h0 ?_);cases d
   ·exact h2
   ·exact h1
  ·cases d with
   | true=>exact tf h (NQ ho h0 (gC s x)) (gH hs x)
   | false=>exact tf h (NQ ho h0 (gC s y)) (gH hs y)
 ·cases h
def KC (x:TA) (i:Nat) (κ:cx→Option R):Option R:=
 match x with
 | .nO l=>if (i+1).ble l.length then κ ⟨l.getD i .top,[],0⟩ else none
 | _=>none
theorem RF {o:Oper} {s:bP} {κ:cx→Option R} {z:R} {x:Operand} {i:Nat} (ho:o.op=.extract x i) (hs:s.ok) (h:KC (s.val x) i κ=some z):wa P o s κ z:=by
 unfold KC at h;split at h
 ·rename_i l hx;split at h
  ·rename_i hi;have hi:i < l.length:=Nat.le_of_ble_eq_true hi;have h1:=@bX s x _ hx;simp only [TA.av] at h1;have hw:=gH hs x;rw [hx] at hw;simp only [TA.wf] at hw;have:=Nx (P:=P) ho h1 (i:=i) (by rw [bG];exact hi);rw [dO _ _ _ hi] at this;exact tf h this (Cy hw i)
  ·cases h
 ·cases h
def aef (op:UnOp) (x:TA) (κ:cx→Option R):Option R:=
 match op,x with
 | .not,.d ⟨.bool,b⟩=>κ ⟨.d ⟨.bool,!(b:Bool)⟩,[],0⟩
 | .neg,.d ⟨.int k,n⟩=>κ ⟨.d ⟨.int k,agO k n⟩,[],0⟩
 | _,_=>none
theorem ab4 {o:Oper} {s:bP} {κ:cx→Option R} {z:R} {x:Operand} {op:UnOp} {t:TypeId} (ho:o.op=.unOp op t x) (h:aef op (s.val x) κ=some z):wa P o s κ z:=by
 unfold aef at h;split at h
 ·rename_i b hx;have h1:ee s.st x (.bool b):=bX hx;exact oC h (adX ho h1)
 ·rename_i k n hx;have h1:ee s.st x (.int k n):=bX hx;exact oC h (adY ho h1)
 ·cases h
def RG (P:Program) (t u:TypeId) (x:TA) (κ:cx→Option R):Option R:=
 match x,P.underlying t,P.underlying u with
 | .d ⟨.int _,m⟩,some _,some (.int k')=>κ ⟨.d ⟨.int k',zo k' m⟩,[],0⟩
 | _,_,_=>none
theorem Qd {o:Oper} {s:bP} {κ:cx→Option R} {z:R} {x:Operand} {t u:TypeId} (ho:o.op=.convert t u x) (h:RG P t u (s.val x) κ=some z):wa P o s κ z:=by
 unfold RG at h;split at h
 ·rename_i k m d k' hx ht hu;have h1:ee s.st x (.int k m):=bX hx;exact oC h (abN ho h1 ht hu)
 ·cases h
def Mg (P:Program) (t:TypeId) (x y:TA) (κ:cx→Option R):Option R:=
 match x,y with
 | .d ⟨.str,m⟩,.d ⟨.int _,i⟩=>match P.underlying t with
  | some .string=>aZ (bW i (List.length (α:=UInt8) m)) (κ ⟨.d ⟨.int .u8,AE m i⟩,[],0⟩)
  | _=>none
 | _,_=>none
theorem NR {o:Oper} {s:bP} {κ:cx→Option R} {z:R} {x y:Operand} {t:TypeId} (ho:o.op=.index t x y) (h:Mg P t (s.val x) (s.val y) κ=some z):wa P o s κ z:=by
 unfold Mg at h;split at h
 ·rename_i m k i hx hy;have h1:ee s.st x (.str m):=bX hx;have h2:ee s.st y (.int k i):=bX hy;split at h
  ·rename_i ht;obtain ⟨e,h⟩:=gb h;obtain ⟨e1,e2⟩:=RD e;exact oC h (ad3 ho h1 h2 ht e1 e2)
  ·cases h
 ·cases h
def Yg (a:TA) (off:Nat):Option TA:=
 match a with
 | .fp t x o=>some (.fp t x (o+off))
 | .bp id o=>some (.bp id (o+off))
 | .rp id i j=>some (.rp id i (j+off))
 | _=>none
theorem Wy {H:List (Nat×aY)} {N:Nat} {a r:TA} {off:Nat} (h:Yg a off=some r) (hw:a.wf H N):(a.av H=.top∨Rr (a.av H) off=some (r.av H))∧r.wf H N:=by
 unfold Yg at h;split at h
 ·cases h;exact ⟨.inr (by simp only [TA.av,Rr]),by simp only [TA.wf]⟩
 ·cases h;exact ⟨.inr (by simp only [TA.av,Rr]),by simp only [TA.wf]⟩
 ·rename_i id i j;cases h;simp only [TA.wf] at hw ⊢;refine ⟨?_,hw⟩;simp only [TA.av];cases fG (aT H id) with
  | none=>exact .inl rfl
  | some b=>exact .inr (by simp only [Rr])
 ·cases h
def known (H:List (Nat×aY)):TA→Bool
 | .rp id _ _=>(fG (aT H id)).isSome
 | _=>true
theorem NS {H:List (Nat×aY)} {N:Nat} {a r:TA} {off:Nat} (h:Yg a off=some r) (hw:a.wf H N) (hk:known H a=true):Rr (a.av H) off=some (r.av H):=by
 rcases (Wy h hw).1 with e | e
 ·unfold Yg at h;split at h
  ·simp only [TA.av] at e;cases e
  ·simp only [TA.av] at e;cases e
  ·rename_i id i j;simp only [known] at hk;simp only [TA.av] at e;cases hb:fG (aT H id) with
   | none=>rw [hb] at hk;cases hk
   | some x=>rw [hb] at e;cases e
  ·cases h
 ·exact e
def EP (P:Program) (H:List (Nat×aY)) (t:TypeId) (x:TA) (k:Nat) (κ:cx→Option R):Option R:=
 match Wl P t k with
 | some off=>match Yg x off with
  | some r=>if known H x then κ ⟨r,[],0⟩ else none
  | none=>none
 | none=>none
theorem NT {o:Oper} {s:bP} {κ:cx→Option R} {z:R} {x:Operand} {t:TypeId} {k:Nat} (ho:o.op=.fieldAddr t x k) (hs:s.ok) (h:EP P s.H t (s.val x) k κ=some z):wa P o s κ z:=by
 unfold EP at h;split at h
 ·rename_i off hf;split at h
  ·rename_i r hr;split at h
   ·rename_i hk;exact tf h (Rs ho (gC s x) hf (NS hr (gH hs x) hk)) (Wy hr (gH hs x)).2
   ·cases h
  ·cases h
 ·cases h
def HM (H:List (Nat×aY)) (x:TA) (κ:cx→Option R):Option R:=
 match Yg x 0 with
 | some _=>if known H x then κ ⟨x,[],0⟩ else none
 | none=>none
theorem Pq {o:Oper} {s:bP} {κ:cx→Option R} {z:R} {x:Operand} (ho:o.op=.nilCheck x) (hs:s.ok) (h:HM s.H (s.val x) κ=some z):wa P o s κ z:=by
 unfold HM at h;split at h
 ·rename_i r hr;split at h
  ·rename_i hk;exact tf h (Ti ho (gC s x) (NS hr (gH hs x) hk)) (gH hs x)
  ·cases h
 ·cases h
def NU (i:Int) (n:Nat) (f:Nat→Option R):Option R:=go i f n 0
where
 go (i:Int) (f:Nat→Option R):Nat→Nat→Option R
  | 0,_=>none
  | n+1,j=>cond (bH i (j:Int)) (f j) (go i f n (j+1))
theorem Lv {i:Int} {n:Nat} {f:Nat→Option R} {x:R} (h:NU i n f=some x):∃ j,j < n∧i=(j:Int)∧f j=some x:=by
 have key:∀ n j,NU.go i f n j=some x→∃ k,j≤k∧k < j+n∧i=(k:Int)∧f k=some x:=by
  intro n
  induction n with
  | zero=>intro j h;cases h
  | succ n ih=>
   intro j h;simp only [NU.go] at h;cases e:bH i (j:Int) with
   | true=>
    rw [e] at h;exact ⟨j,Nat.le_refl _,by omega,by simpa [bH] using e,h⟩
   | false=>
    rw [e] at h;obtain ⟨k,h1,h2,h3⟩:=ih (j+1) h;exact ⟨k,by omega,by omega,h3⟩
 obtain ⟨k,h1,h2,h3⟩:=key n 0 h;exact ⟨k,by omega,h3⟩
def Vq (P:Program) (H:List (Nat×aY)) (t:TypeId) (x y:TA) (κ:cx→Option R):Option R:=
 match y,P.underlying t with
 | .d ⟨.int _,i⟩,some (.slice et)=>match P.info? et with
  | some ti=>match x with
   | .d ⟨.sl u,xs⟩=>if Nat.beq ti.size (fx u) then aZ (bW i (List.length (α:=u.dn) xs)) (κ ⟨.fp u (nth u.df xs i) 0,[],0⟩) else none
   | .ow id=>match aT H id with
    | some (.row u _ xs)=>if Nat.beq ti.size (fx u) then aZ (bW i xs.length) (κ ⟨.rp id i 0,[],0⟩) else none
    | some (.dq u _ xs _ _)=>if Nat.beq ti.size (fx u) then aZ (bW i xs.length) (κ ⟨.rp id i 0,[],0⟩) else none
    | _=>none
   | .bs id n bA=>if Nat.beq ti.size bA then NU i n fun j=>κ ⟨.bp id (j*bA),[],0⟩ else none
   | _=>none
  | none=>none
 | _,_=>none
theorem Yh {o:Oper} {s:bP} {κ:cx→Option R} {z:R} {x y:Operand} {t:TypeId} (ho:o.op=.indexAddr t x y) (hs:s.ok) (h:Vq P s.H t (s.val x) (s.val y) κ=some z):wa P o s κ z:=by
 unfold Vq at h;split at h
 ·rename_i k i et hy ht;have h2:ee s.st y (.int k i):=bX hy;split at h
  ·rename_i ti hi;split at h
   ·rename_i u xs hx;split at h
    ·rename_i he;obtain ⟨e,h⟩:=gb h;obtain ⟨e1,e2⟩:=RD e;have h1:ee s.st x (.fs (fx u) (List.length (α:=u.dn) xs) fun i j=>(sU u (List.getD (α:=u.dn) xs i u.df)).getD j .top):=bX hx;refine kJ h (LX ho h1 h2 ht hi (Nat.eq_of_beq_eq_true he) e1 e2) ?_ (by simp only [TA.wf]);simp only [TA.av];exact ik.refl _
    ·cases h
   ·rename_i id hx;split at h
    ·rename_i u v xs hb;split at h
     ·rename_i he;obtain ⟨e,h⟩:=gb h;obtain ⟨e1,e2⟩:=RD e;have h1:=@bX s x _ hx;simp only [TA.av,hb] at h1;have hw:=gH hs x;rw [hx] at hw;simp only [TA.wf] at hw;refine kJ h (Bo ho h1 h2 ht hi (Nat.eq_of_beq_eq_true he) e1 e2) ?_ ?_
      ·simp only [TA.av,hb];exact ik.refl _
      ·simp only [TA.wf];refine ⟨hw,fun t' v' xs' cl=>?_⟩;rw [hb] at cl;cases cl;omega
     ·cases h
    ·rename_i u v xs _ _ hb;split at h
     ·rename_i he;obtain ⟨e,h⟩:=gb h;obtain ⟨e1,e2⟩:=RD e;have h1:=@bX s x _ hx;simp only [TA.av,hb] at h1;have hw:=gH hs x;rw [hx] at hw;simp only [TA.wf] at hw;refine kJ h (Bo ho h1 h2 ht hi (Nat.eq_of_beq_eq_true he) e1 e2) ?_ ?_
      ·simp only [TA.av,hb];exact ik.refl _
      ·simp only [TA.wf];refine ⟨hw,fun t' v' xs' cl=>?_⟩;rw [hb] at cl;cases cl;omega
     ·cases h
    ·cases h
   ·rename_i id n bA hx;split at h
    ·rename_i he;obtain ⟨j,hj,JJ,h3⟩:=Lv h;subst JJ;have h1:=@bX s x _ hx;simp only [TA.av] at h1;have he:=Nat.eq_of_beq_eq_true he;refine kJ (rv:=.bp id (j*bA)) h3 (b6 fun {w F O μ K ft a} gf=>?_) (by simp only [TA.av];exact ik.refl _) (by simp only [TA.wf]);have hv:=h1 gf;have h':=(h2 gf).dd;generalize EK:a.eval x=v at hv;cases hv with
     | ms _ _ _ _ cap sz t' bZ hc sZ fT=>
      refine ⟨.pointer (some ⟨μ id,j*bA,none⟩),?_,.bp id (j*bA) bZ⟩;have c2:(j:Int) < (n:Int):=by omega
      simp [execOp,ho,EK,h',Instr.indexAt,asIntOf,cb ht,hj,gB hi,he,wu]
    ·cases h
   ·cases h
  ·cases h
 ·cases h
end Go.Proofs.YtjkbbdldmdajkaaGreatDoor.c_
