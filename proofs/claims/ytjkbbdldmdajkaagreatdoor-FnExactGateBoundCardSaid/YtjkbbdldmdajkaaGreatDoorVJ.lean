/- The evaluator of operations, and that it is sound: all but calls. No condition. -/
import Derived.Test.YtjkbbdldmdajkaaGreatDoorVIB
namespace Go.Proofs.YtjkbbdldmdajkaaGreatDoor.c_
open Go Go.RowKit
variable {w w' xk:World} {F F' Bs O O' v8:Nat→Prop} {μ bC lG:Nat→Nat} {K K' EF:Nat→Prop} {ft bZ:Nat→Nat→Prop} {P:Program} {R:Type}
def aZ (b:Bool) (x:Option R):Option R:=cond b x none
theorem gg {b:Bool} {x:Option R} {r:R} (h:aZ b x=some r):b=true∧x=some r:=by
 cases b
 ·cases h
 ·exact ⟨rfl,h⟩
def bW (i:Int) (n:Nat):Bool:=decide (0≤i)&&decide (i < n)
theorem RG {i:Int} {n:Nat} (h:bW i n=true):0≤i∧i < n:=by simpa [bW] using h
def O8 (l h:Int) (n:Nat):Bool:=decide (0≤l)&&(decide (l≤h)&&decide (h≤n))
theorem WA {l h:Int} {n:Nat} (e:O8 l h n=true):0≤l∧l≤h∧h≤n:=by simpa [O8] using e
def QG (m n:List UInt8):Bool:=decide (m.length+n.length < 1099511627776)
def GV (l c:Int) (bytes:Nat):Bool:=decide (0≤l)&&(decide (l≤c)&&(decide (c*(bytes:Int)≤140737488355328)&&decide (c≤140737488355328)))
theorem Vr {l c:Int} {n:Nat} (e:GV l c n=true):0≤l∧l≤c∧c*(n:Int)≤140737488355328∧c≤140737488355328:=by simpa [GV] using e
def mw (n bytes:Nat):Bool:=decide (n*bytes≤70368744177664)&&decide (n≤70368744177664)
theorem ab2 {n b:Nat} (e:mw n b=true):n*b≤70368744177664∧n≤70368744177664:=by simpa [mw] using e
def nth {α:Type} (d:α) (xs:List α) (i:Int):α:=xs.getD i.toNat d
def oJ {α:Type} (xs:List α) (i:Int) (x:α):List α:=xs.set i.toNat x
structure Env where
 P:Program
 tc:List (Nat×Ty)
 mt:List (TypeId×String×FuncId)
 fz:List Nat
 mp:List (TypeId×Nat)
 dp:List Nat:=[]
def L5:List (Nat×Ty)→Nat→Option Ty
 | [],_=>none
 | (i,t)::r,k=>match Nat.beq k i with
  | true=>some t
  | false=>L5 r k
def wg (P:Program) (o:Oper) (s:bP) (κ:cx→Option R) (x:R):Prop:=∃ r,TOk P o s r∧NN s r∧κ r=some x
theorem kK {o:Oper} {s:bP} {κ:cx→Option R} {x:R} {rv:AV} {v:TA} (hk:κ ⟨v,[],0⟩=some x) (h:dr P o s.st ⟨rv,[],[]⟩) (hv:il rv (v.av s.H)) (hw:v.wf s.H s.N):wg P o s κ x:=
 ⟨_,abY h hv,aas hw,hk⟩
theorem tg {o:Oper} {s:bP} {κ:cx→Option R} {x:R} {v:TA} (hk:κ ⟨v,[],0⟩=some x) (h:dr P o s.st ⟨v.av s.H,[],[]⟩) (hw:v.wf s.H s.N):wg P o s κ x:=
 kK hk h (il.refl _) hw
theorem oD {o:Oper} {s:bP} {κ:cx→Option R} {x:R} {y:cN} (hk:κ ⟨.d y,[],0⟩=some x) (h:dr P o s.st ⟨cR y,[],[]⟩):wg P o s κ x:=
 tg hk (by simpa only [TA.av] using h) (by simp only [TA.wf])
def afs (op:BinOp) (k:IntKind) (m n:Int):Option cN:=
 match op with
 | .add=>some ⟨.int k,aP k m n⟩
 | .sub=>some ⟨.int k,bO k m n⟩
 | .mul=>some ⟨.int k,Xn k m n⟩
 | .and=>some ⟨.int k,afe k m n⟩
 | .or=>some ⟨.int k,bOr k m n⟩
 | .xor=>some ⟨.int k,aff k m n⟩
 | .eql=>some ⟨.bool,bH m n⟩
 | .neq=>some ⟨.bool,!bH m n⟩
 | .lss=>some ⟨.bool,bK m n⟩
 | .leq=>some ⟨.bool,b8 m n⟩
 | .gtr=>some ⟨.bool,bK n m⟩
 | .geq=>some ⟨.bool,b8 n m⟩
 | _=>none
theorem ab3 {op:BinOp} {k:IntKind} {m n:Int} {y:cN} (h:afs op k m n=some y):aaj op k m n=some (cR y):=by
 cases op<;>cases h<;>rfl
def aft (op:BinOp) (k:IntKind) (m n:Int):Option cN:=
 match op with
 | .quo=>some ⟨.int k,Sn k m n⟩
 | .rem=>some ⟨.int k,xr m n⟩
 | _=>none
theorem ab4 {op:BinOp} {k:IntKind} {m n:Int} {y:cN} (h:aft op k m n=some y):aak op k m n=some (cR y):=by
 cases op<;>cases h<;>rfl
def aat (op:BinOp) (k:IntKind) (m n:Int):Option cN:=
 match op with
 | .shl=>some ⟨.int k,afg k m n⟩
 | .shr=>some ⟨.int k,afh k m n⟩
 | _=>none
theorem Yh {op:BinOp} {k:IntKind} {m n:Int} {y:cN} (h:aat op k m n=some y):Rt op k m n=some (cR y):=by
 cases op<;>cases h<;>rfl
def afu (op:BinOp) (m n:List UInt8):Option cN:=
 match op with
 | .eql=>some ⟨.bool,seq m n⟩
 | .neq=>some ⟨.bool,!seq m n⟩
 | .lss=>some ⟨.bool,slt m n⟩
 | .leq=>some ⟨.bool,slt m n||seq m n⟩
 | .gtr=>some ⟨.bool,!(slt m n||seq m n)⟩
 | .geq=>some ⟨.bool,!slt m n⟩
 | _=>none
theorem ab5 {op:BinOp} {m n:List UInt8} {y:cN} (h:afu op m n=some y):aam op m n=some (cR y):=by
 cases op<;>cases h<;>rfl
def ada (op:BinOp) (m n:Bool):Option cN:=
 match op with
 | .eql=>some ⟨.bool,beq m n⟩
 | .neq=>some ⟨.bool,!beq m n⟩
 | _=>none
theorem aau {op:BinOp} {m n:Bool} {y:cN} (h:ada op m n=some y):Ve op m n=some (cR y):=by
 cases op<;>cases h<;>rfl
def isAdd:BinOp→Bool
 | .add=>true
 | _=>false
def ab6:Option TypeDesc→Bool
 | some .bool=>true
 | _=>false
def aav (P:Program) (op:BinOp) (t:TypeId) (x y:TA) (κ:cx→Option R):Option R:=
 match x,y with
 | .d ⟨.int k,m⟩,.d ⟨.int k',n⟩=>match aat op k m n with
  | some r=>aZ (b8 0 n) (κ ⟨.d r,[],0⟩)
  | none=>if k=k' then (match afs op k m n with
   | some r=>κ ⟨.d r,[],0⟩
   | none=>match aft op k m n with
    | some r=>aZ (!bH n 0) (κ ⟨.d r,[],0⟩)
    | none=>none) else none
 | .d ⟨.str,m⟩,.d ⟨.str,n⟩=>match afu op m n with
  | some r=>κ ⟨.d r,[],0⟩
  | none=>if isAdd op then aZ (QG m n) (κ ⟨.d ⟨.str,List.append (α:=UInt8) m n⟩,[],0⟩) else none
 | .d ⟨.bool,m⟩,.d ⟨.bool,n⟩=>if ab6 (P.underlying t) then (match ada op m n with
  | some r=>κ ⟨.d r,[],0⟩
  | none=>none) else none
 | _,_=>none
theorem aaw {o:Oper} {s:bP} {κ:cx→Option R} {z:R} {op:BinOp} {t u:TypeId} {x y:Operand} (ho:o.op=.binOp op t x y u) (h:aav P op t (s.val x) (s.val y) κ=some z):wg P o s κ z:=by
 unfold aav at h;split at h
 ·rename_i k m k' n hx hy;have h1:ee s.st x (.int k m):=bX hx;have h2:ee s.st y (.int k' n):=bX hy;split at h
  ·rename_i r hr;obtain ⟨e,h⟩:=gg h;exact oD h (aal ho h1 h2 (Yh hr) (by simpa [b8] using e))
  ·split at h
   ·rename_i e;subst e;split at h
    ·rename_i r hr;exact oD h (ad2 ho h1 h2 (ab3 hr))
    ·split at h
     ·rename_i r hr;obtain ⟨e,h⟩:=gg h;exact oD h (ad3 ho h1 h2 (ab4 hr) (by intro h0;simp [bH,h0] at e))
     ·cases h
   ·cases h
 ·rename_i m n hx hy;have h1:ee s.st x (.str m):=bX hx;have h2:ee s.st y (.str n):=bX hy;split at h
  ·rename_i r hr;exact oD h (ad4 ho h1 h2 (ab5 hr))
  ·split at h
   ·rename_i ha;have:op=.add:=by cases op<;>simp [isAdd] at ha<;>rfl
    subst this;obtain ⟨e,h⟩:=gg h;exact oD h (ad5 ho h1 h2 (by simpa [QG] using e))
   ·cases h
 ·rename_i m n hx hy;have h1:ee s.st x (.bool m):=bX hx;have h2:ee s.st y (.bool n):=bX hy;split at h
  ·rename_i ht;have XW:P.underlying t=some .bool:=by
    generalize P.underlying t=q at ht
    match q,ht with
    | some .bool,_=>rfl
   split at h
   ·rename_i r hr;exact oD h (abR ho h1 h2 XW (aau hr))
   ·cases h
  ·cases h
 ·cases h
def Vs (c x y:TA) (κ:cx→Option R):Option R:=
 match c with
 | .d ⟨.bool,d⟩=>match x,y with
  | .d ⟨.bool,p⟩,.d ⟨.bool,q⟩=>κ ⟨.d ⟨.bool,cond (d:Bool) (p:Bool) (q:Bool)⟩,[],0⟩
  | x,y=>cond (d:Bool) (κ ⟨x,[],0⟩) (κ ⟨y,[],0⟩)
 | _=>none
theorem NR {o:Oper} {s:fT} {c x y:Operand} {v:AV} {d:Bool} (ho:o.op=.pick c x y) (hc:ee s c (.bool d)) (h:ee s (if d then x else y) v):dr P o s ⟨v,[],[]⟩:=
 b6 fun {w F O μ K ft a} hs=>by
  have e:=(hc hs).fe;cases d with
  | true=>exact ⟨a.eval x,by simp only [execOp,ho,e,asBool];rfl,h hs⟩
  | false=>exact ⟨a.eval y,by simp only [execOp,ho,e,asBool];rfl,h hs⟩
theorem Yi {o:Oper} {s:bP} {κ:cx→Option R} {z:R} {c x y:Operand} (ho:o.op=.pick c x y) (hs:s.ok) (h:Vs (s.val c) (s.val x) (s.val y) κ=some z):wg P o s κ z:=by
 unfold Vs at h;split at h
 ·rename_i d hc;have h0:ee s.st c (.bool d):=bX hc;split at h
  ·rename_i p q hx hy;have h1:ee s.st x (.bool p):=bX hx;have h2:ee s.st y (.bool q):=bX hy;refine oD h (NR ho h0 ?_);cases d
   ·exact h2
   ·exact h1
  ·cases d with
   | true=>exact tg h (NR ho h0 (gE s x)) (gf hs x)
   | false=>exact tg h (NR ho h0 (gE s y)) (gf hs y)
 ·cases h
def KD (x:TA) (i:Nat) (κ:cx→Option R):Option R:=
 match x with
 | .nP l=>if (i+1).ble l.length then κ ⟨l.getD i .top,[],0⟩ else none
 | _=>none
theorem RH {o:Oper} {s:bP} {κ:cx→Option R} {z:R} {x:Operand} {i:Nat} (ho:o.op=.extract x i) (hs:s.ok) (h:KD (s.val x) i κ=some z):wg P o s κ z:=by
 unfold KD at h;split at h
 ·rename_i l hx;split at h
  ·rename_i hi;have hi:i < l.length:=Nat.le_of_ble_eq_true hi;have h1:=@bX s x _ hx;simp only [TA.av] at h1;have hw:=gf hs x;rw [hx] at hw;simp only [TA.wf] at hw;have:=Ny (P:=P) ho h1 (i:=i) (by rw [bB];exact hi);rw [dx _ _ _ hi] at this;exact tg h this (Cz hw i)
  ·cases h
 ·cases h
def aej (op:UnOp) (x:TA) (κ:cx→Option R):Option R:=
 match op,x with
 | .not,.d ⟨.bool,b⟩=>κ ⟨.d ⟨.bool,!(b:Bool)⟩,[],0⟩
 | .neg,.d ⟨.int k,n⟩=>κ ⟨.d ⟨.int k,agS k n⟩,[],0⟩
 | _,_=>none
theorem ab7 {o:Oper} {s:bP} {κ:cx→Option R} {z:R} {x:Operand} {op:UnOp} {t:TypeId} (ho:o.op=.unOp op t x) (h:aej op (s.val x) κ=some z):wg P o s κ z:=by
 unfold aej at h;split at h
 ·rename_i b hx;have h1:ee s.st x (.bool b):=bX hx;exact oD h (ad0 ho h1)
 ·rename_i k n hx;have h1:ee s.st x (.int k n):=bX hx;exact oD h (ad1 ho h1)
 ·cases h
def RI (P:Program) (t u:TypeId) (x:TA) (κ:cx→Option R):Option R:=
 match x,P.underlying t,P.underlying u with
 | .d ⟨.int _,m⟩,some _,some (.int k')=>κ ⟨.d ⟨.int k',zu k' m⟩,[],0⟩
 | _,_,_=>none
theorem Qh {o:Oper} {s:bP} {κ:cx→Option R} {z:R} {x:Operand} {t u:TypeId} (ho:o.op=.convert t u x) (h:RI P t u (s.val x) κ=some z):wg P o s κ z:=by
 unfold RI at h;split at h
 ·rename_i k m d k' hx ht hu;have h1:ee s.st x (.int k m):=bX hx;exact oD h (abQ ho h1 ht hu)
 ·cases h
def Mh (P:Program) (t:TypeId) (x y:TA) (κ:cx→Option R):Option R:=
 match x,y with
 | .d ⟨.str,m⟩,.d ⟨.int _,i⟩=>match P.underlying t with
  | some .string=>aZ (bW i (List.length (α:=UInt8) m)) (κ ⟨.d ⟨.int .u8,AI m i⟩,[],0⟩)
  | _=>none
 | _,_=>none
theorem NS {o:Oper} {s:bP} {κ:cx→Option R} {z:R} {x y:Operand} {t:TypeId} (ho:o.op=.index t x y) (h:Mh P t (s.val x) (s.val y) κ=some z):wg P o s κ z:=by
 unfold Mh at h;split at h
 ·rename_i m k i hx hy;have h1:ee s.st x (.str m):=bX hx;have h2:ee s.st y (.int k i):=bX hy;split at h
  ·rename_i ht;obtain ⟨e,h⟩:=gg h;obtain ⟨e1,e2⟩:=RG e;exact oD h (ad6 ho h1 h2 ht e1 e2)
  ·cases h
 ·cases h
def Yj (a:TA) (off:Nat):Option TA:=
 match a with
 | .fp t x o=>some (.fp t x (o+off))
 | .rb cs o=>some (.rb cs (o+off))
 | .bp id o=>some (.bp id (o+off))
 | .rp id i j=>some (.rp id i (j+off))
 | _=>none
theorem WB {H:List (Nat×aY)} {N:Nat} {a r:TA} {off:Nat} (h:Yj a off=some r) (hw:a.wf H N):(a.av H=.top∨Po (a.av H) off=some (r.av H))∧r.wf H N:=by
 unfold Yj at h;split at h
 ·cases h;exact ⟨.inr (by simp only [TA.av,Po]),by simp only [TA.wf]⟩
 ·cases h;exact ⟨.inr (by simp only [TA.av,Po]),by simp only [TA.wf] at hw ⊢;exact hw⟩
 ·cases h;exact ⟨.inr (by simp only [TA.av,Po]),by simp only [TA.wf]⟩
 ·rename_i id i j;cases h;simp only [TA.wf] at hw ⊢;refine ⟨?_,hw⟩;simp only [TA.av];cases fH (aT H id) with
  | none=>exact .inl rfl
  | some b=>exact .inr (by simp only [Po])
 ·cases h
def known (H:List (Nat×aY)):TA→Bool
 | .rp id _ _=>(fH (aT H id)).isSome
 | _=>true
theorem NT {H:List (Nat×aY)} {N:Nat} {a r:TA} {off:Nat} (h:Yj a off=some r) (hw:a.wf H N) (hk:known H a=true):Po (a.av H) off=some (r.av H):=by
 rcases (WB h hw).1 with e | e
 ·unfold Yj at h;split at h
  ·simp only [TA.av] at e;cases e
  ·simp only [TA.av] at e;cases e
  ·simp only [TA.av] at e;cases e
  ·rename_i id i j;simp only [known] at hk;simp only [TA.av] at e;cases hb:fH (aT H id) with
   | none=>rw [hb] at hk;cases hk
   | some x=>rw [hb] at e;cases e
  ·cases h
 ·exact e
def EV (P:Program) (H:List (Nat×aY)) (t:TypeId) (x:TA) (k:Nat) (κ:cx→Option R):Option R:=
 match Wo P t k with
 | some off=>match Yj x off with
  | some r=>if known H x then κ ⟨r,[],0⟩ else none
  | none=>none
 | none=>none
theorem NU {o:Oper} {s:bP} {κ:cx→Option R} {z:R} {x:Operand} {t:TypeId} {k:Nat} (ho:o.op=.fieldAddr t x k) (hs:s.ok) (h:EV P s.H t (s.val x) k κ=some z):wg P o s κ z:=by
 unfold EV at h;split at h
 ·rename_i off hf;split at h
  ·rename_i r hr;split at h
   ·rename_i hk;exact tg h (Ru ho (gE s x) hf (NT hr (gf hs x) hk)) (WB hr (gf hs x)).2
   ·cases h
  ·cases h
 ·cases h
def HQ (H:List (Nat×aY)) (x:TA) (κ:cx→Option R):Option R:=
 match Yj x 0 with
 | some _=>if known H x then κ ⟨x,[],0⟩ else none
 | none=>none
theorem Pt {o:Oper} {s:bP} {κ:cx→Option R} {z:R} {x:Operand} (ho:o.op=.nilCheck x) (hs:s.ok) (h:HQ s.H (s.val x) κ=some z):wg P o s κ z:=by
 unfold HQ at h;split at h
 ·rename_i r hr;split at h
  ·rename_i hk;exact tg h (Tl ho (gE s x) (NT hr (gf hs x) hk)) (gf hs x)
  ·cases h
 ·cases h
def NV (i:Int) (n:Nat) (f:Nat→Option R):Option R:=go i f n 0
where
 go (i:Int) (f:Nat→Option R):Nat→Nat→Option R
  | 0,_=>none
  | n+1,j=>cond (bH i (j:Int)) (f j) (go i f n (j+1))
theorem Lw {i:Int} {n:Nat} {f:Nat→Option R} {x:R} (h:NV i n f=some x):∃ j,j < n∧i=(j:Int)∧f j=some x:=by
 have key:∀ n j,NV.go i f n j=some x→∃ k,j≤k∧k < j+n∧i=(k:Int)∧f k=some x:=by
  intro n
  induction n with
  | zero=>intro j h;cases h
  | succ n ih=>
   intro j h;simp only [NV.go] at h;cases e:bH i (j:Int) with
   | true=>
    rw [e] at h;exact ⟨j,Nat.le_refl _,by omega,by simpa [bH] using e,h⟩
   | false=>
    rw [e] at h;obtain ⟨k,h1,h2,h3⟩:=ih (j+1) h;exact ⟨k,by omega,by omega,h3⟩
 obtain ⟨k,h1,h2,h3⟩:=key n 0 h;exact ⟨k,by omega,h3⟩
def Vt (P:Program) (H:List (Nat×aY)) (t:TypeId) (x y:TA) (κ:cx→Option R):Option R:=
 match y,P.underlying t with
 | .d ⟨.int _,i⟩,some (.slice et)=>match P.info? et with
  | some ti=>match x with
   | .d ⟨.sl u,xs⟩=>if Nat.beq ti.size (fy u) then aZ (bW i (List.length (α:=u.dn) xs)) (κ ⟨.fp u (nth u.df xs i) 0,[],0⟩) else none
   | .ow id=>match aT H id with
    | some (.row u _ xs)=>if Nat.beq ti.size (fy u) then aZ (bW i xs.length) (κ ⟨.rp id i 0,[],0⟩) else none
    | some (.dq u _ xs _ _)=>if Nat.beq ti.size (fy u) then aZ (bW i xs.length) (κ ⟨.rp id i 0,[],0⟩) else none
    | _=>none
   | .bs id n bA=>if Nat.beq ti.size bA then NV i n fun j=>κ ⟨.bp id (j*bA),[],0⟩ else none
   | _=>none
  | none=>none
 | _,_=>none
theorem Yk {o:Oper} {s:bP} {κ:cx→Option R} {z:R} {x y:Operand} {t:TypeId} (ho:o.op=.indexAddr t x y) (hs:s.ok) (h:Vt P s.H t (s.val x) (s.val y) κ=some z):wg P o s κ z:=by
 unfold Vt at h;split at h
 ·rename_i k i et hy ht;have h2:ee s.st y (.int k i):=bX hy;split at h
  ·rename_i ti hi;split at h
   ·rename_i u xs hx;split at h
    ·rename_i he;obtain ⟨e,h⟩:=gg h;obtain ⟨e1,e2⟩:=RG e;have h1:ee s.st x (.fs (fy u) (List.length (α:=u.dn) xs) fun i j=>(sW u (List.getD (α:=u.dn) xs i u.df)).getD j .top):=bX hx;refine kK h (LY ho h1 h2 ht hi (Nat.eq_of_beq_eq_true he) e1 e2) ?_ (by simp only [TA.wf]);simp only [TA.av];exact il.refl _
    ·cases h
   ·rename_i id hx;split at h
    ·rename_i u v xs hb;split at h
     ·rename_i he;obtain ⟨e,h⟩:=gg h;obtain ⟨e1,e2⟩:=RG e;have h1:=@bX s x _ hx;simp only [TA.av,hb] at h1;have hw:=gf hs x;rw [hx] at hw;simp only [TA.wf] at hw;refine kK h (Bt ho h1 h2 ht hi (Nat.eq_of_beq_eq_true he) e1 e2) ?_ ?_
      ·simp only [TA.av,hb];exact il.refl _
      ·simp only [TA.wf];refine ⟨hw,fun t' v' xs' cl=>?_⟩;rw [hb] at cl;cases cl;omega
     ·cases h
    ·rename_i u v xs _ _ hb;split at h
     ·rename_i he;obtain ⟨e,h⟩:=gg h;obtain ⟨e1,e2⟩:=RG e;have h1:=@bX s x _ hx;simp only [TA.av,hb] at h1;have hw:=gf hs x;rw [hx] at hw;simp only [TA.wf] at hw;refine kK h (Bt ho h1 h2 ht hi (Nat.eq_of_beq_eq_true he) e1 e2) ?_ ?_
      ·simp only [TA.av,hb];exact il.refl _
      ·simp only [TA.wf];refine ⟨hw,fun t' v' xs' cl=>?_⟩;rw [hb] at cl;cases cl;omega
     ·cases h
    ·cases h
   ·rename_i id n bA hx;split at h
    ·rename_i he;obtain ⟨j,hj,JK,h3⟩:=Lw h;subst JK;have h1:=@bX s x _ hx;simp only [TA.av] at h1;have he:=Nat.eq_of_beq_eq_true he;refine kK (rv:=.bp id (j*bA)) h3 (b6 fun {w F O μ K ft a} gh=>?_) (by simp only [TA.av];exact il.refl _) (by simp only [TA.wf]);have hv:=h1 gh;have h':=(h2 gh).de;generalize EO:a.eval x=v at hv;cases hv with
     | ms _ _ _ _ cap sz t' bY hc rR fV=>
      refine ⟨.pointer (some ⟨μ id,j*bA,none⟩),?_,.bp id (j*bA) bY⟩;have c2:(j:Int) < (n:Int):=by omega
      simp [execOp,ho,EO,h',Instr.indexAt,asIntOf,cb ht,hj,gD hi,he,wy]
    ·cases h
   ·cases h
  ·cases h
 ·cases h
end Go.Proofs.YtjkbbdldmdajkaaGreatDoor.c_
