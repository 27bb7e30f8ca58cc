/- The evaluator of operations, and that it is sound: all but calls. No condition. -/
import Derived.Test.YtjkbbdldmdajkaaGreatDoorVIB
namespace Go.Proofs.YtjkbbdldmdajkaaGreatDoor.c5
open Go Go.RowKit
variable {w w' ss:World} {F F' zT O O' uo:Nat→Prop} {μ aZ jE:Nat→Nat} {K K' C9:Nat→Prop} {ft bX:Nat→Nat→Prop} {P:Program} {R:Type}
def bE (b:Bool) (x:Option R):Option R:=cond b x none
theorem fT {b:Bool} {x:Option R} {r:R} (h:bE b x=some r):b=true∧x=some r:=by
 cases b
 ·cases h
 ·exact ⟨rfl,h⟩
def bW (i:Int) (n:Nat):Bool:=decide (0≤i)&&decide (i < n)
theorem Q6 {i:Int} {n:Nat} (h:bW i n=true):0≤i∧i < n:=by simpa [bW] using h
def aby (l h:Int) (n:Nat):Bool:=decide (0≤l)&&(decide (l≤h)&&decide (h≤n))
theorem We {l h:Int} {n:Nat} (e:aby l h n=true):0≤l∧l≤h∧h≤n:=by simpa [aby] using e
def Qf (m n:List UInt8):Bool:=decide (m.length+n.length < 1099511627776)
def Gf (l c:Int) (bytes:Nat):Bool:=decide (0≤l)&&(decide (l≤c)&&(decide (c*(bytes:Int)≤140737488355328)&&decide (c≤140737488355328)))
theorem UZ {l c:Int} {n:Nat} (e:Gf l c n=true):0≤l∧l≤c∧c*(n:Int)≤140737488355328∧c≤140737488355328:=by simpa [Gf] using e
def kW (n bytes:Nat):Bool:=decide (n*bytes≤70368744177664)&&decide (n≤70368744177664)
theorem abz {n b:Nat} (e:kW n b=true):n*b≤70368744177664∧n≤70368744177664:=by simpa [kW] using e
def nth {α:Type} (d:α) (xs:List α) (i:Int):α:=xs.getD i.toNat d
def nQ {α:Type} (xs:List α) (i:Int) (x:α):List α:=xs.set i.toNat x
structure Env where
 P:Program
 tc:List (Nat×Ty)
 mt:List (TypeId×String×FuncId)
 fz:List Nat
 mp:List (TypeId×Nat)
 dp:List Nat:=[]
def Lw:List (Nat×Ty)→Nat→Option Ty
 | [],_=>none
 | (i,t)::r,k=>match Nat.beq k i with
  | true=>some t
  | false=>Lw r k
def vh (P:Program) (o:Oper) (s:bL) (κ:cu→Option R) (x:R):Prop:=∃ r,TOk P o s r∧KU s r∧κ r=some x
theorem kh {o:Oper} {s:bL} {κ:cu→Option R} {x:R} {rv:AV} {v:TA} (hk:κ ⟨v,[],0⟩=some x) (h:dg P o s.st ⟨rv,[],[]⟩) (hv:g8 rv (v.av s.H)) (hw:v.wf s.H s.N):vh P o s κ x:=
 ⟨_,abu h hv,ZP hw,hk⟩
theorem sj {o:Oper} {s:bL} {κ:cu→Option R} {x:R} {v:TA} (hk:κ ⟨v,[],0⟩=some x) (h:dg P o s.st ⟨v.av s.H,[],[]⟩) (hw:v.wf s.H s.N):vh P o s κ x:=
 kh hk h (g8.refl _) hw
theorem nM {o:Oper} {s:bL} {κ:cu→Option R} {x:R} {y:cG} (hk:κ ⟨.d y,[],0⟩=some x) (h:dg P o s.st ⟨cL y,[],[]⟩):vh P o s κ x:=
 sj hk (by simpa only [TA.av] using h) (by simp only [TA.wf])
def afm (op:BinOp) (k:IntKind) (m n:Int):Option cG:=
 match op with
 | .add=>some ⟨.int k,aN k m n⟩
 | .sub=>some ⟨.int k,bS k m n⟩
 | .mul=>some ⟨.int k,W6 k m n⟩
 | .and=>some ⟨.int k,ae9 k m n⟩
 | .or=>some ⟨.int k,bOr k m n⟩
 | .xor=>some ⟨.int k,ae_ k m n⟩
 | .eql=>some ⟨.bool,bI m n⟩
 | .neq=>some ⟨.bool,!bI m n⟩
 | .lss=>some ⟨.bool,bM m n⟩
 | .leq=>some ⟨.bool,b6 m n⟩
 | .gtr=>some ⟨.bool,bM n m⟩
 | .geq=>some ⟨.bool,b6 n m⟩
 | _=>none
theorem abA {op:BinOp} {k:IntKind} {m n:Int} {y:cG} (h:afm op k m n=some y):ZD op k m n=some (cL y):=by
 cases op<;>cases h<;>rfl
def afn (op:BinOp) (k:IntKind) (m n:Int):Option cG:=
 match op with
 | .quo=>some ⟨.int k,RO k m n⟩
 | .rem=>some ⟨.int k,wv m n⟩
 | _=>none
theorem abB {op:BinOp} {k:IntKind} {m n:Int} {y:cG} (h:afn op k m n=some y):ZE op k m n=some (cL y):=by
 cases op<;>cases h<;>rfl
def ZQ (op:BinOp) (k:IntKind) (m n:Int):Option cG:=
 match op with
 | .shl=>some ⟨.int k,afa k m n⟩
 | .shr=>some ⟨.int k,afb k m n⟩
 | _=>none
theorem XT {op:BinOp} {k:IntKind} {m n:Int} {y:cG} (h:ZQ op k m n=some y):QW op k m n=some (cL y):=by
 cases op<;>cases h<;>rfl
def afo (op:BinOp) (m n:List UInt8):Option cG:=
 match op with
 | .eql=>some ⟨.bool,seq m n⟩
 | .neq=>some ⟨.bool,!seq m n⟩
 | .lss=>some ⟨.bool,slt m n⟩
 | .leq=>some ⟨.bool,slt m n||seq m n⟩
 | .gtr=>some ⟨.bool,!(slt m n||seq m n)⟩
 | .geq=>some ⟨.bool,!slt m n⟩
 | _=>none
theorem abC {op:BinOp} {m n:List UInt8} {y:cG} (h:afo op m n=some y):ZG op m n=some (cL y):=by
 cases op<;>cases h<;>rfl
def acK (op:BinOp) (m n:Bool):Option cG:=
 match op with
 | .eql=>some ⟨.bool,beq m n⟩
 | .neq=>some ⟨.bool,!beq m n⟩
 | _=>none
theorem ZR {op:BinOp} {m n:Bool} {y:cG} (h:acK op m n=some y):UL op m n=some (cL y):=by
 cases op<;>cases h<;>rfl
def isAdd:BinOp→Bool
 | .add=>true
 | _=>false
def abD:Option TypeDesc→Bool
 | some .bool=>true
 | _=>false
def ZS (P:Program) (op:BinOp) (t:TypeId) (x y:TA) (κ:cu→Option R):Option R:=
 match x,y with
 | .d ⟨.int k,m⟩,.d ⟨.int k',n⟩=>match ZQ op k m n with
  | some r=>bE (b6 0 n) (κ ⟨.d r,[],0⟩)
  | none=>if k=k' then (match afm op k m n with
   | some r=>κ ⟨.d r,[],0⟩
   | none=>match afn op k m n with
    | some r=>bE (!bI n 0) (κ ⟨.d r,[],0⟩)
    | none=>none) else none
 | .d ⟨.str,m⟩,.d ⟨.str,n⟩=>match afo op m n with
  | some r=>κ ⟨.d r,[],0⟩
  | none=>if isAdd op then bE (Qf m n) (κ ⟨.d ⟨.str,List.append (α:=UInt8) m n⟩,[],0⟩) else none
 | .d ⟨.bool,m⟩,.d ⟨.bool,n⟩=>if abD (P.underlying t) then (match acK op m n with
  | some r=>κ ⟨.d r,[],0⟩
  | none=>none) else none
 | _,_=>none
theorem ZT {o:Oper} {s:bL} {κ:cu→Option R} {z:R} {op:BinOp} {t u:TypeId} {x y:Operand} (ho:o.op=.binOp op t x y u) (h:ZS P op t (s.val x) (s.val y) κ=some z):vh P o s κ z:=by
 unfold ZS at h;split at h
 ·rename_i k m k' n hx hy;have h1:dT s.st x (.int k m):=bY hx;have h2:dT s.st y (.int k' n):=bY hy;split at h
  ·rename_i r hr;obtain ⟨e,h⟩:=fT h;exact nM h (ZF ho h1 h2 (XT hr) (by simpa [b6] using e))
  ·split at h
   ·rename_i e;subst e;split at h
    ·rename_i r hr;exact nM h (adJ ho h1 h2 (abA hr))
    ·split at h
     ·rename_i r hr;obtain ⟨e,h⟩:=fT h;exact nM h (adK ho h1 h2 (abB hr) (by intro h0;simp [bI,h0] at e))
     ·cases h
   ·cases h
 ·rename_i m n hx hy;have h1:dT s.st x (.str m):=bY hx;have h2:dT s.st y (.str n):=bY hy;split at h
  ·rename_i r hr;exact nM h (adL ho h1 h2 (abC hr))
  ·split at h
   ·rename_i ha;have:op=.add:=by cases op<;>simp [isAdd] at ha<;>rfl
    subst this;obtain ⟨e,h⟩:=fT h;exact nM h (adM ho h1 h2 (by simpa [Qf] using e))
   ·cases h
 ·rename_i m n hx hy;have h1:dT s.st x (.bool m):=bY hx;have h2:dT s.st y (.bool n):=bY hy;split at h
  ·rename_i ht;have Xy:P.underlying t=some .bool:=by
    generalize P.underlying t=q at ht
    match q,ht with
    | some .bool,_=>rfl
   split at h
   ·rename_i r hr;exact nM h (abm ho h1 h2 Xy (ZR hr))
   ·cases h
  ·cases h
 ·cases h
def U0 (c x y:TA) (κ:cu→Option R):Option R:=
 match c with
 | .d ⟨.bool,d⟩=>match x,y with
  | .d ⟨.bool,p⟩,.d ⟨.bool,q⟩=>κ ⟨.d ⟨.bool,cond (d:Bool) (p:Bool) (q:Bool)⟩,[],0⟩
  | x,y=>cond (d:Bool) (κ ⟨x,[],0⟩) (κ ⟨y,[],0⟩)
 | _=>none
theorem Ni {o:Oper} {s:fG} {c x y:Operand} {v:AV} {d:Bool} (ho:o.op=.pick c x y) (hc:dT s c (.bool d)) (h:dT s (if d then x else y) v):dg P o s ⟨v,[],[]⟩:=
 b7 fun {w F O μ K ft a} hs=>by
  have e:=(hc hs).eR;cases d with
  | true=>exact ⟨a.eval x,by simp only [execOp,ho,e,asBool];rfl,h hs⟩
  | false=>exact ⟨a.eval y,by simp only [execOp,ho,e,asBool];rfl,h hs⟩
theorem XU {o:Oper} {s:bL} {κ:cu→Option R} {z:R} {c x y:Operand} (ho:o.op=.pick c x y) (hs:s.ok) (h:U0 (s.val c) (s.val x) (s.val y) κ=some z):vh P o s κ z:=by
 unfold U0 at h;split at h
 ·rename_i d hc;have h0:dT s.st c (.bool d):=bY hc;split at h
  ·rename_i p q hx hy;have h1:dT s.st x (.bool p):=bY hx;have h2:dT s.st y (.bool q):=bY hy;refine nM h (Ni ho h0 ?_);cases d
   ·exact h2
   ·exact h1
  ·cases d with
   | true=>exact sj h (Ni ho h0 (gu s x)) (fS hs x)
   | false=>exact sj h (Ni ho h0 (gu s y)) (fS hs y)
 ·cases h
def J4 (x:TA) (i:Nat) (κ:cu→Option R):Option R:=
 match x with
 | .ov l=>if (i+1).ble l.length then κ ⟨l.getD i .top,[],0⟩ else none
 | _=>none
theorem Q7 {o:Oper} {s:bL} {κ:cu→Option R} {z:R} {x:Operand} {i:Nat} (ho:o.op=.extract x i) (hs:s.ok) (h:J4 (s.val x) i κ=some z):vh P o s κ z:=by
 unfold J4 at h;split at h
 ·rename_i l hx;split at h
  ·rename_i hi;have hi:i < l.length:=Nat.le_of_ble_eq_true hi;have h1:=@bY s x _ hx;simp only [TA.av] at h1;have hw:=fS hs x;rw [hx] at hw;simp only [TA.wf] at hw;have:=MZ (P:=P) ho h1 (i:=i) (by rw [bC];exact hi);rw [dq _ _ _ hi] at this;exact sj h this (BT hw i)
  ·cases h
 ·cases h
def ad1 (op:UnOp) (x:TA) (κ:cu→Option R):Option R:=
 match op,x with
 | .not,.d ⟨.bool,b⟩=>κ ⟨.d ⟨.bool,!(b:Bool)⟩,[],0⟩
 | .neg,.d ⟨.int k,n⟩=>κ ⟨.d ⟨.int k,ag9 k n⟩,[],0⟩
 | _,_=>none
theorem abE {o:Oper} {s:bL} {κ:cu→Option R} {z:R} {x:Operand} {op:UnOp} {t:TypeId} (ho:o.op=.unOp op t x) (h:ad1 op (s.val x) κ=some z):vh P o s κ z:=by
 unfold ad1 at h;split at h
 ·rename_i b hx;have h1:dT s.st x (.bool b):=bY hx;exact nM h (adH ho h1)
 ·rename_i k n hx;have h1:dT s.st x (.int k n):=bY hx;exact nM h (adI ho h1)
 ·cases h
def Q8 (P:Program) (t u:TypeId) (x:TA) (κ:cu→Option R):Option R:=
 match x,P.underlying t,P.underlying u with
 | .d ⟨.int _,m⟩,some _,some (.int k')=>κ ⟨.d ⟨.int k',yE k' m⟩,[],0⟩
 | _,_,_=>none
theorem PO {o:Oper} {s:bL} {κ:cu→Option R} {z:R} {x:Operand} {t u:TypeId} (ho:o.op=.convert t u x) (h:Q8 P t u (s.val x) κ=some z):vh P o s κ z:=by
 unfold Q8 at h;split at h
 ·rename_i k m d k' hx ht hu;have h1:dT s.st x (.int k m):=bY hx;exact nM h (abl ho h1 ht hu)
 ·cases h
def LN (P:Program) (t:TypeId) (x y:TA) (κ:cu→Option R):Option R:=
 match x,y with
 | .d ⟨.str,m⟩,.d ⟨.int _,i⟩=>match P.underlying t with
  | some .string=>bE (bW i (List.length (α:=UInt8) m)) (κ ⟨.d ⟨.int .u8,zZ m i⟩,[],0⟩)
  | _=>none
 | _,_=>none
theorem Nj {o:Oper} {s:bL} {κ:cu→Option R} {z:R} {x y:Operand} {t:TypeId} (ho:o.op=.index t x y) (h:LN P t (s.val x) (s.val y) κ=some z):vh P o s κ z:=by
 unfold LN at h;split at h
 ·rename_i m k i hx hy;have h1:dT s.st x (.str m):=bY hx;have h2:dT s.st y (.int k i):=bY hy;split at h
  ·rename_i ht;obtain ⟨e,h⟩:=fT h;obtain ⟨e1,e2⟩:=Q6 e;exact nM h (adN ho h1 h2 ht e1 e2)
  ·cases h
 ·cases h
def XV (a:TA) (off:Nat):Option TA:=
 match a with
 | .fp t x o=>some (.fp t x (o+off))
 | .rb cs o=>some (.rb cs (o+off))
 | .bp id o=>some (.bp id (o+off))
 | .rp id i j=>some (.rp id i (j+off))
 | _=>none
theorem Wf {H:List (Nat×aX)} {N:Nat} {a r:TA} {off:Nat} (h:XV a off=some r) (hw:a.wf H N):(a.av H=.top∨OL (a.av H) off=some (r.av H))∧r.wf H N:=by
 unfold XV at h;split at h
 ·cases h;exact ⟨.inr (by simp only [TA.av,OL]),by simp only [TA.wf]⟩
 ·cases h;exact ⟨.inr (by simp only [TA.av,OL]),by simp only [TA.wf] at hw ⊢;exact hw⟩
 ·cases h;exact ⟨.inr (by simp only [TA.av,OL]),by simp only [TA.wf]⟩
 ·rename_i id i j;cases h;simp only [TA.wf] at hw ⊢;refine ⟨?_,hw⟩;simp only [TA.av];cases fv (aS H id) with
  | none=>exact .inl rfl
  | some b=>exact .inr (by simp only [OL])
 ·cases h
def known (H:List (Nat×aX)):TA→Bool
 | .rp id _ _=>(fv (aS H id)).isSome
 | _=>true
theorem Nk {H:List (Nat×aX)} {N:Nat} {a r:TA} {off:Nat} (h:XV a off=some r) (hw:a.wf H N) (hk:known H a=true):OL (a.av H) off=some (r.av H):=by
 rcases (Wf h hw).1 with e | e
 ·unfold XV at h;split at h
  ·simp only [TA.av] at e;cases e
  ·simp only [TA.av] at e;cases e
  ·simp only [TA.av] at e;cases e
  ·rename_i id i j;simp only [known] at hk;simp only [TA.av] at e;cases hb:fv (aS H id) with
   | none=>rw [hb] at hk;cases hk
   | some x=>rw [hb] at e;cases e
  ·cases h
 ·exact e
def Ef (P:Program) (H:List (Nat×aX)) (t:TypeId) (x:TA) (k:Nat) (κ:cu→Option R):Option R:=
 match V5 P t k with
 | some off=>match XV x off with
  | some r=>if known H x then κ ⟨r,[],0⟩ else none
  | none=>none
 | none=>none
theorem Nl {o:Oper} {s:bL} {κ:cu→Option R} {z:R} {x:Operand} {t:TypeId} {k:Nat} (ho:o.op=.fieldAddr t x k) (hs:s.ok) (h:Ef P s.H t (s.val x) k κ=some z):vh P o s κ z:=by
 unfold Ef at h;split at h
 ·rename_i off hf;split at h
  ·rename_i r hr;split at h
   ·rename_i hk;exact sj h (QX ho (gu s x) hf (Nk hr (fS hs x) hk)) (Wf hr (fS hs x)).2
   ·cases h
  ·cases h
 ·cases h
def Hb (H:List (Nat×aX)) (x:TA) (κ:cu→Option R):Option R:=
 match XV x 0 with
 | some _=>if known H x then κ ⟨x,[],0⟩ else none
 | none=>none
theorem OR {o:Oper} {s:bL} {κ:cu→Option R} {z:R} {x:Operand} (ho:o.op=.nilCheck x) (hs:s.ok) (h:Hb s.H (s.val x) κ=some z):vh P o s κ z:=by
 unfold Hb at h;split at h
 ·rename_i r hr;split at h
  ·rename_i hk;exact sj h (SM ho (gu s x) (Nk hr (fS hs x) hk)) (fS hs x)
  ·cases h
 ·cases h
def Nn (i:Int) (n:Nat) (f:Nat→Option R):Option R:=go i f n 0
where
 go (i:Int) (f:Nat→Option R):Nat→Nat→Option R
  | 0,_=>none
  | n+1,j=>cond (bI i (j:Int)) (f j) (go i f n (j+1))
theorem KV {i:Int} {n:Nat} {f:Nat→Option R} {x:R} (h:Nn i n f=some x):∃ j,j < n∧i=(j:Int)∧f j=some x:=by
 have key:∀ n j,Nn.go i f n j=some x→∃ k,j≤k∧k < j+n∧i=(k:Int)∧f k=some x:=by
  intro n
  induction n with
  | zero=>intro j h;cases h
  | succ n ih=>
   intro j h;simp only [Nn.go] at h;cases e:bI i (j:Int) with
   | true=>
    rw [e] at h;exact ⟨j,Nat.le_refl _,by omega,by simpa [bI] using e,h⟩
   | false=>
    rw [e] at h;obtain ⟨k,h1,h2,h3⟩:=ih (j+1) h;exact ⟨k,by omega,by omega,h3⟩
 obtain ⟨k,h1,h2,h3⟩:=key n 0 h;exact ⟨k,by omega,h3⟩
def U1 (P:Program) (H:List (Nat×aX)) (t:TypeId) (x y:TA) (κ:cu→Option R):Option R:=
 match y,P.underlying t with
 | .d ⟨.int _,i⟩,some (.slice et)=>match P.info? et with
  | some ti=>match x with
   | .d ⟨.sl u,xs⟩=>if Nat.beq ti.size (ff u) then bE (bW i (List.length (α:=u.dn) xs)) (κ ⟨.fp u (nth u.df xs i) 0,[],0⟩) else none
   | .ow id=>match aS H id with
    | some (.row u _ xs)=>if Nat.beq ti.size (ff u) then bE (bW i xs.length) (κ ⟨.rp id i 0,[],0⟩) else none
    | some (.de u _ xs _ _)=>if Nat.beq ti.size (ff u) then bE (bW i xs.length) (κ ⟨.rp id i 0,[],0⟩) else none
    | _=>none
   | .bs id n bB=>if Nat.beq ti.size bB then Nn i n fun j=>κ ⟨.bp id (j*bB),[],0⟩ else none
   | _=>none
  | none=>none
 | _,_=>none
theorem XW {o:Oper} {s:bL} {κ:cu→Option R} {z:R} {x y:Operand} {t:TypeId} (ho:o.op=.indexAddr t x y) (hs:s.ok) (h:U1 P s.H t (s.val x) (s.val y) κ=some z):vh P o s κ z:=by
 unfold U1 at h;split at h
 ·rename_i k i et hy ht;have h2:dT s.st y (.int k i):=bY hy;split at h
  ·rename_i ti hi;split at h
   ·rename_i u xs hx;split at h
    ·rename_i he;obtain ⟨e,h⟩:=fT h;obtain ⟨e1,e2⟩:=Q6 e;have h1:dT s.st x (.fs (ff u) (List.length (α:=u.dn) xs) fun i j=>(r9 u (List.getD (α:=u.dn) xs i u.df)).getD j .top):=bY hx;refine kh h (Lo ho h1 h2 ht hi (Nat.eq_of_beq_eq_true he) e1 e2) ?_ (by simp only [TA.wf]);simp only [TA.av];exact g8.refl _
    ·cases h
   ·rename_i id hx;split at h
    ·rename_i u v xs hb;split at h
     ·rename_i he;obtain ⟨e,h⟩:=fT h;obtain ⟨e1,e2⟩:=Q6 e;have h1:=@bY s x _ hx;simp only [TA.av,hb] at h1;have hw:=fS hs x;rw [hx] at hw;simp only [TA.wf] at hw;refine kh h (AL ho h1 h2 ht hi (Nat.eq_of_beq_eq_true he) e1 e2) ?_ ?_
      ·simp only [TA.av,hb];exact g8.refl _
      ·simp only [TA.wf];refine ⟨hw,fun t' v' ZU ck=>?_⟩;rw [hb] at ck;cases ck;omega
     ·cases h
    ·rename_i u v xs _ _ hb;split at h
     ·rename_i he;obtain ⟨e,h⟩:=fT h;obtain ⟨e1,e2⟩:=Q6 e;have h1:=@bY s x _ hx;simp only [TA.av,hb] at h1;have hw:=fS hs x;rw [hx] at hw;simp only [TA.wf] at hw;refine kh h (AL ho h1 h2 ht hi (Nat.eq_of_beq_eq_true he) e1 e2) ?_ ?_
      ·simp only [TA.av,hb];exact g8.refl _
      ·simp only [TA.wf];refine ⟨hw,fun t' v' ZU ck=>?_⟩;rw [hb] at ck;cases ck;omega
     ·cases h
    ·cases h
   ·rename_i id n bB hx;split at h
    ·rename_i he;obtain ⟨j,hj,H_,h3⟩:=KV h;subst H_;have h1:=@bY s x _ hx;simp only [TA.av] at h1;have he:=Nat.eq_of_beq_eq_true he;refine kh (rv:=.bp id (j*bB)) h3 (b7 fun {w F O μ K ft a} fJ=>?_) (by simp only [TA.av];exact g8.refl _) (by simp only [TA.wf]);have hv:=h1 fJ;have h':=(h2 fJ).c8;generalize Ea:a.eval x=v at hv;cases hv with
     | ms _ _ _ _ cap sz t' bZ hc qQ fh=>
      refine ⟨.pointer (some ⟨μ id,j*bB,none⟩),?_,.bp id (j*bB) bZ⟩;have c2:(j:Int) < (n:Int):=by omega
      simp [execOp,ho,Ea,h',Instr.indexAt,asIntOf,ca ht,hj,gr hi,he,vo]
    ·cases h
   ·cases h
  ·cases h
 ·cases h
end Go.Proofs.YtjkbbdldmdajkaaGreatDoor.c5
