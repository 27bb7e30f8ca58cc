/- The evaluator of operations, and that it is sound: all but calls. No condition. -/
import Derived.Test.YtljfmaaadnoggaaGreatDoorVIB
namespace Go.Proofs.YtljfmaaadnoggaaGreatDoor.cU
open Go Go.RowKit
variable {w w' vP:World} {F F' Am O O' ux:Nat→Prop} {μ bB jV:Nat→Nat} {K K' DQ:Nat→Prop} {ft b7:Nat→Nat→Prop} {P:Program} {R:Type}
def bC (b:Bool) (x:Option R):Option R:=cond b x none
theorem gh {b:Bool} {x:Option R} {r:R} (h:bC b x=some r):b=true∧x=some r:=by
 cases b
 ·cases h
 ·exact ⟨rfl,h⟩
def bT (i:Int) (n:Nat):Bool:=decide (0≤i)&&decide (i < n)
theorem Q8 {i:Int} {n:Nat} (h:bT i n=true):0≤i∧i < n:=by simpa [bT] using h
def aa3 (l h:Int) (n:Nat):Bool:=decide (0≤l)&&(decide (l≤h)&&decide (h≤n))
theorem V3 {l h:Int} {n:Nat} (e:aa3 l h n=true):0≤l∧l≤h∧h≤n:=by simpa [aa3] using e
def Qg (m n:List UInt8):Bool:=decide (m.length+n.length < 1099511627776)
def Ej (l c:Int) (bytes:Nat):Bool:=decide (0≤l)&&(decide (l≤c)&&(decide (c*(bytes:Int)≤140737488355328)&&decide (c≤140737488355328)))
theorem UT {l c:Int} {n:Nat} (e:Ej l c n=true):0≤l∧l≤c∧c*(n:Int)≤140737488355328∧c≤140737488355328:=by simpa [Ej] using e
def uF (n bytes:Nat):Bool:=decide (n*bytes≤70368744177664)&&decide (n≤70368744177664)
theorem aa4 {n b:Nat} (e:uF n b=true):n*b≤70368744177664∧n≤70368744177664:=by simpa [uF] using e
def nth {α:Type} (d:α) (xs:List α) (i:Int):α:=xs.getD i.toNat d
def g8 {α:Type} (xs:List α) (i:Int) (x:α):List α:=xs.set i.toNat x
structure Env where
 P:Program
 tc:List (Nat×Ty)
 mt:List (TypeId×String×FuncId)
 fz:List Nat
 mp:List (TypeId×Nat)
 dp:List Nat:=[]
def Nk:List (Nat×Ty)→Nat→Option Ty
 | [],_=>none
 | (i,t)::r,k=>match Nat.beq k i with
  | true=>some t
  | false=>Nk r k
def we (P:Program) (o:Oper) (s:bK) (κ:cC→Option R) (x:R):Prop:=∃ r,TOk P o s r∧Ng s r∧κ r=some x
theorem jv {o:Oper} {s:bK} {κ:cC→Option R} {x:R} {rv:AV} {v:TA} (hk:κ ⟨v,[],0⟩=some x) (h:db P o s.st ⟨rv,[],[]⟩) (hv:gZ rv (v.av s.H)) (hw:v.wf s.H s.N):we P o s κ x:=
 ⟨_,aaZ h hv,Zu hw,hk⟩
theorem rH {o:Oper} {s:bK} {κ:cC→Option R} {x:R} {v:TA} (hk:κ ⟨v,[],0⟩=some x) (h:db P o s.st ⟨v.av s.H,[],[]⟩) (hw:v.wf s.H s.N):we P o s κ x:=
 jv hk h (gZ.refl _) hw
theorem mM {o:Oper} {s:bK} {κ:cC→Option R} {x:R} {y:cE} (hk:κ ⟨.d y,[],0⟩=some x) (h:db P o s.st ⟨cK y,[],[]⟩):we P o s κ x:=
 rH hk (by simpa only [TA.av] using h) (by simp only [TA.wf])
def aev (op:BinOp) (k:IntKind) (m n:Int):Option cE:=
 match op with
 | .add=>some ⟨.int k,aQ k m n⟩
 | .sub=>some ⟨.int k,bS k m n⟩
 | .mul=>some ⟨.int k,WO k m n⟩
 | .and=>some ⟨.int k,aeh k m n⟩
 | .or=>some ⟨.int k,bOr k m n⟩
 | .xor=>some ⟨.int k,aei k m n⟩
 | .eql=>some ⟨.bool,bM m n⟩
 | .neq=>some ⟨.bool,!bM m n⟩
 | .lss=>some ⟨.bool,bN m n⟩
 | .leq=>some ⟨.bool,b_ m n⟩
 | .gtr=>some ⟨.bool,bN n m⟩
 | .geq=>some ⟨.bool,b_ n m⟩
 | _=>none
theorem aa5 {op:BinOp} {k:IntKind} {m n:Int} {y:cE} (h:aev op k m n=some y):Zi op k m n=some (cK y):=by
 cases op<;>cases h<;>rfl
def aew (op:BinOp) (k:IntKind) (m n:Int):Option cE:=
 match op with
 | .quo=>some ⟨.int k,RS k m n⟩
 | .rem=>some ⟨.int k,wI m n⟩
 | _=>none
theorem aa6 {op:BinOp} {k:IntKind} {m n:Int} {y:cE} (h:aew op k m n=some y):Zj op k m n=some (cK y):=by
 cases op<;>cases h<;>rfl
def Zv (op:BinOp) (k:IntKind) (m n:Int):Option cE:=
 match op with
 | .shl=>some ⟨.int k,aej k m n⟩
 | .shr=>some ⟨.int k,aek k m n⟩
 | _=>none
theorem Xz {op:BinOp} {k:IntKind} {m n:Int} {y:cE} (h:Zv op k m n=some y):QW op k m n=some (cK y):=by
 cases op<;>cases h<;>rfl
def aex (op:BinOp) (m n:List UInt8):Option cE:=
 match op with
 | .eql=>some ⟨.bool,seq m n⟩
 | .neq=>some ⟨.bool,!seq m n⟩
 | .lss=>some ⟨.bool,slt m n⟩
 | .leq=>some ⟨.bool,slt m n||seq m n⟩
 | .gtr=>some ⟨.bool,!(slt m n||seq m n)⟩
 | .geq=>some ⟨.bool,!slt m n⟩
 | _=>none
theorem aa7 {op:BinOp} {m n:List UInt8} {y:cE} (h:aex op m n=some y):Zl op m n=some (cK y):=by
 cases op<;>cases h<;>rfl
def acd (op:BinOp) (m n:Bool):Option cE:=
 match op with
 | .eql=>some ⟨.bool,beq m n⟩
 | .neq=>some ⟨.bool,!beq m n⟩
 | _=>none
theorem Zw {op:BinOp} {m n:Bool} {y:cE} (h:acd op m n=some y):UF op m n=some (cK y):=by
 cases op<;>cases h<;>rfl
def isAdd:BinOp→Bool
 | .add=>true
 | _=>false
def aa8:Option TypeDesc→Bool
 | some .bool=>true
 | _=>false
def Zx (P:Program) (op:BinOp) (t:TypeId) (x y:TA) (κ:cC→Option R):Option R:=
 match x,y with
 | .d ⟨.int k,m⟩,.d ⟨.int k',n⟩=>match Zv op k m n with
  | some r=>bC (b_ 0 n) (κ ⟨.d r,[],0⟩)
  | none=>if k=k' then (match aev op k m n with
   | some r=>κ ⟨.d r,[],0⟩
   | none=>match aew op k m n with
    | some r=>bC (!bM n 0) (κ ⟨.d r,[],0⟩)
    | none=>none) else none
 | .d ⟨.str,m⟩,.d ⟨.str,n⟩=>match aex op m n with
  | some r=>κ ⟨.d r,[],0⟩
  | none=>if isAdd op then bC (Qg m n) (κ ⟨.d ⟨.str,List.append (α:=UInt8) m n⟩,[],0⟩) else none
 | .d ⟨.bool,m⟩,.d ⟨.bool,n⟩=>if aa8 (P.underlying t) then (match acd op m n with
  | some r=>κ ⟨.d r,[],0⟩
  | none=>none) else none
 | _,_=>none
theorem Zy {o:Oper} {s:bK} {κ:cC→Option R} {z:R} {op:BinOp} {t u:TypeId} {x y:Operand} (ho:o.op=.binOp op t x y u) (h:Zx P op t (s.val x) (s.val y) κ=some z):we P o s κ z:=by
 unfold Zx at h
 split at h
 ·rename_i k m k' n hx hy
  have h1:dT s.st x (.int k m):=b8 hx
  have h2:dT s.st y (.int k' n):=b8 hy
  split at h
  ·rename_i r hr
   obtain ⟨e,h⟩:=gh h
   exact mM h (Zk ho h1 h2 (Xz hr) (by simpa [b_] using e))
  ·split at h
   ·rename_i e
    subst e
    split at h
    ·rename_i r hr
     exact mM h (ac5 ho h1 h2 (aa5 hr))
    ·split at h
     ·rename_i r hr
      obtain ⟨e,h⟩:=gh h
      exact mM h (ac6 ho h1 h2 (aa6 hr) (by intro h0;simp [bM,h0] at e))
     ·cases h
   ·cases h
 ·rename_i m n hx hy
  have h1:dT s.st x (.str m):=b8 hx
  have h2:dT s.st y (.str n):=b8 hy
  split at h
  ·rename_i r hr
   exact mM h (ac7 ho h1 h2 (aa7 hr))
  ·split at h
   ·rename_i ha
    have:op=.add:=by cases op<;>simp [isAdd] at ha<;>rfl
    subst this
    obtain ⟨e,h⟩:=gh h
    exact mM h (ac8 ho h1 h2 (by simpa [Qg] using e))
   ·cases h
 ·rename_i m n hx hy
  have h1:dT s.st x (.bool m):=b8 hx
  have h2:dT s.st y (.bool n):=b8 hy
  split at h
  ·rename_i ht
   have Xd:P.underlying t=some .bool:=by
    generalize P.underlying t=q at ht
    match q,ht with
    | some .bool,_=>rfl
   split at h
   ·rename_i r hr
    exact mM h (aaS ho h1 h2 Xd (Zw hr))
   ·cases h
  ·cases h
 ·cases h
def UU (c x y:TA) (κ:cC→Option R):Option R:=
 match c with
 | .d ⟨.bool,d⟩=>match x,y with
  | .d ⟨.bool,p⟩,.d ⟨.bool,q⟩=>κ ⟨.d ⟨.bool,cond (d:Bool) (p:Bool) (q:Bool)⟩,[],0⟩
  | x,y=>cond (d:Bool) (κ ⟨x,[],0⟩) (κ ⟨y,[],0⟩)
 | _=>none
theorem Nl {o:Oper} {s:fy} {c x y:Operand} {v:AV} {d:Bool} (ho:o.op=.pick c x y) (hc:dT s c (.bool d)) (h:dT s (if d then x else y) v):db P o s ⟨v,[],[]⟩:=
 bZ fun {w F O μ K ft a} hs=>by
  have e:=(hc hs).ey
  cases d with
  | true=>exact ⟨a.eval x,by simp only [execOp,ho,e,asBool];rfl,h hs⟩
  | false=>exact ⟨a.eval y,by simp only [execOp,ho,e,asBool];rfl,h hs⟩
theorem XA {o:Oper} {s:bK} {κ:cC→Option R} {z:R} {c x y:Operand} (ho:o.op=.pick c x y) (hs:s.ok) (h:UU (s.val c) (s.val x) (s.val y) κ=some z):we P o s κ z:=by
 unfold UU at h
 split at h
 ·rename_i d hc
  have h0:dT s.st c (.bool d):=b8 hc
  split at h
  ·rename_i p q hx hy
   have h1:dT s.st x (.bool p):=b8 hx
   have h2:dT s.st y (.bool q):=b8 hy
   refine mM h (Nl ho h0 ?_)
   cases d
   ·exact h2
   ·exact h1
  ·cases d with
   | true=>exact rH h (Nl ho h0 (fQ s x)) (fX hs x)
   | false=>exact rH h (Nl ho h0 (fQ s y)) (fX hs y)
 ·cases h
def Kk (x:TA) (i:Nat) (κ:cC→Option R):Option R:=
 match x with
 | .n9 l=>if (i+1).ble l.length then κ ⟨l.getD i .top,[],0⟩ else none
 | _=>none
theorem Q9 {o:Oper} {s:bK} {κ:cC→Option R} {z:R} {x:Operand} {i:Nat} (ho:o.op=.extract x i) (hs:s.ok) (h:Kk (s.val x) i κ=some z):we P o s κ z:=by
 unfold Kk at h
 split at h
 ·rename_i l hx
  split at h
  ·rename_i hi
   have hi:i < l.length:=Nat.le_of_ble_eq_true hi
   have h1:=@b8 s x _ hx
   simp only [TA.av] at h1
   have hw:=fX hs x
   rw [hx] at hw
   simp only [TA.wf] at hw
   have:=M4 (P:=P) ho h1 (i:=i) (by rw [bE];exact hi)
   rw [dy _ _ _ hi] at this
   exact rH h this (Bs hw i)
  ·cases h
 ·cases h
def adm (op:UnOp) (x:TA) (κ:cC→Option R):Option R:=
 match op,x with
 | .not,.d ⟨.bool,b⟩=>κ ⟨.d ⟨.bool,!(b:Bool)⟩,[],0⟩
 | .neg,.d ⟨.int k,n⟩=>κ ⟨.d ⟨.int k,agh k n⟩,[],0⟩
 | _,_=>none
theorem aa9 {o:Oper} {s:bK} {κ:cC→Option R} {z:R} {x:Operand} {op:UnOp} {t:TypeId} (ho:o.op=.unOp op t x) (h:adm op (s.val x) κ=some z):we P o s κ z:=by
 unfold adm at h
 split at h
 ·rename_i b hx
  have h1:dT s.st x (.bool b):=b8 hx
  exact mM h (ac3 ho h1)
 ·rename_i k n hx
  have h1:dT s.st x (.int k n):=b8 hx
  exact mM h (ac4 ho h1)
 ·cases h
def Q_ (P:Program) (t u:TypeId) (x:TA) (κ:cC→Option R):Option R:=
 match x,P.underlying t,P.underlying u with
 | .d ⟨.int _,m⟩,some _,some (.int k')=>κ ⟨.d ⟨.int k',yg k' m⟩,[],0⟩
 | _,_,_=>none
theorem PS {o:Oper} {s:bK} {κ:cC→Option R} {z:R} {x:Operand} {t u:TypeId} (ho:o.op=.convert t u x) (h:Q_ P t u (s.val x) κ=some z):we P o s κ z:=by
 unfold Q_ at h
 split at h
 ·rename_i k m d k' hx ht hu
  have h1:dT s.st x (.int k m):=b8 hx
  exact mM h (aaR ho h1 ht hu)
 ·cases h
def LZ (P:Program) (t:TypeId) (x y:TA) (κ:cC→Option R):Option R:=
 match x,y with
 | .d ⟨.str,m⟩,.d ⟨.int _,i⟩=>match P.underlying t with
  | some .string=>bC (bT i (List.length (α:=UInt8) m)) (κ ⟨.d ⟨.int .u8,zI m i⟩,[],0⟩)
  | _=>none
 | _,_=>none
theorem Nn {o:Oper} {s:bK} {κ:cC→Option R} {z:R} {x y:Operand} {t:TypeId} (ho:o.op=.index t x y) (h:LZ P t (s.val x) (s.val y) κ=some z):we P o s κ z:=by
 unfold LZ at h
 split at h
 ·rename_i m k i hx hy
  have h1:dT s.st x (.str m):=b8 hx
  have h2:dT s.st y (.int k i):=b8 hy
  split at h
  ·rename_i ht
   obtain ⟨e,h⟩:=gh h
   obtain ⟨e1,e2⟩:=Q8 e
   exact mM h (ac9 ho h1 h2 ht e1 e2)
  ·cases h
 ·cases h
def XB (a:TA) (off:Nat):Option TA:=
 match a with
 | .fp t x o=>some (.fp t x (o+off))
 | .bp id o=>some (.bp id (o+off))
 | .rp id i j=>some (.rp id i (j+off))
 | _=>none
theorem V4 {H:List (Nat×aW)} {N:Nat} {a r:TA} {off:Nat} (h:XB a off=some r) (hw:a.wf H N):(a.av H=.top∨QX (a.av H) off=some (r.av H))∧r.wf H N:=by
 unfold XB at h
 split at h
 ·cases h;exact ⟨.inr (by simp only [TA.av,QX]),by simp only [TA.wf]⟩
 ·cases h;exact ⟨.inr (by simp only [TA.av,QX]),by simp only [TA.wf]⟩
 ·rename_i id i j
  cases h
  simp only [TA.wf] at hw ⊢
  refine ⟨?_,hw⟩
  simp only [TA.av]
  cases fj (aR H id) with
  | none=>exact .inl rfl
  | some b=>exact .inr (by simp only [QX])
 ·cases h
def known (H:List (Nat×aW)):TA→Bool
 | .rp id _ _=>(fj (aR H id)).isSome
 | _=>true
theorem No {H:List (Nat×aW)} {N:Nat} {a r:TA} {off:Nat} (h:XB a off=some r) (hw:a.wf H N) (hk:known H a=true):QX (a.av H) off=some (r.av H):=by
 rcases (V4 h hw).1 with e | e
 ·unfold XB at h
  split at h
  ·simp only [TA.av] at e;cases e
  ·simp only [TA.av] at e;cases e
  ·rename_i id i j
   simp only [known] at hk
   simp only [TA.av] at e
   cases hb:fj (aR H id) with
   | none=>rw [hb] at hk;cases hk
   | some x=>rw [hb] at e;cases e
  ·cases h
 ·exact e
def D4 (P:Program) (H:List (Nat×aW)) (t:TypeId) (x:TA) (k:Nat) (κ:cC→Option R):Option R:=
 match VS P t k with
 | some off=>match XB x off with
  | some r=>if known H x then κ ⟨r,[],0⟩ else none
  | none=>none
 | none=>none
theorem Np {o:Oper} {s:bK} {κ:cC→Option R} {z:R} {x:Operand} {t:TypeId} {k:Nat} (ho:o.op=.fieldAddr t x k) (hs:s.ok) (h:D4 P s.H t (s.val x) k κ=some z):we P o s κ z:=by
 unfold D4 at h
 split at h
 ·rename_i off hf
  split at h
  ·rename_i r hr
   split at h
   ·rename_i hk
    exact rH h (QY ho (fQ s x) hf (No hr (fX hs x) hk)) (V4 hr (fX hs x)).2
   ·cases h
  ·cases h
 ·cases h
def Hi (H:List (Nat×aW)) (x:TA) (κ:cC→Option R):Option R:=
 match XB x 0 with
 | some _=>if known H x then κ ⟨x,[],0⟩ else none
 | none=>none
theorem OR {o:Oper} {s:bK} {κ:cC→Option R} {z:R} {x:Operand} (ho:o.op=.nilCheck x) (hs:s.ok) (h:Hi s.H (s.val x) κ=some z):we P o s κ z:=by
 unfold Hi at h
 split at h
 ·rename_i r hr
  split at h
  ·rename_i hk
   exact rH h (SJ ho (fQ s x) (No hr (fX hs x) hk)) (fX hs x)
  ·cases h
 ·cases h
def Nq (i:Int) (n:Nat) (f:Nat→Option R):Option R:=go i f n 0
where
 go (i:Int) (f:Nat→Option R):Nat→Nat→Option R
  | 0,_=>none
  | n+1,j=>cond (bM i (j:Int)) (f j) (go i f n (j+1))
theorem Li {i:Int} {n:Nat} {f:Nat→Option R} {x:R} (h:Nq i n f=some x):∃ j,j < n∧i=(j:Int)∧f j=some x:=by
 have key:∀ n j,Nq.go i f n j=some x→∃ k,j≤k∧k < j+n∧i=(k:Int)∧f k=some x:=by
  intro n
  induction n with
  | zero=>intro j h;cases h
  | succ n ih=>
   intro j h
   simp only [Nq.go] at h
   cases e:bM i (j:Int) with
   | true=>
    rw [e] at h
    exact ⟨j,Nat.le_refl _,by omega,by simpa [bM] using e,h⟩
   | false=>
    rw [e] at h
    obtain ⟨k,h1,h2,h3⟩:=ih (j+1) h
    exact ⟨k,by omega,by omega,h3⟩
 obtain ⟨k,h1,h2,h3⟩:=key n 0 h
 exact ⟨k,by omega,h3⟩
def UW (P:Program) (H:List (Nat×aW)) (t:TypeId) (x y:TA) (κ:cC→Option R):Option R:=
 match y,P.underlying t with
 | .d ⟨.int _,i⟩,some (.slice et)=>match P.info? et with
  | some ti=>match x with
   | .d ⟨.sl u,xs⟩=>if Nat.beq ti.size (eR u) then bC (bT i (List.length (α:=u.dn) xs)) (κ ⟨.fp u (nth u.df xs i) 0,[],0⟩) else none
   | .ow id=>match aR H id with
    | some (.row u _ xs)=>if Nat.beq ti.size (eR u) then bC (bT i xs.length) (κ ⟨.rp id i 0,[],0⟩) else none
    | some (.c5 u _ xs _ _)=>if Nat.beq ti.size (eR u) then bC (bT i xs.length) (κ ⟨.rp id i 0,[],0⟩) else none
    | _=>none
   | .bs id n aZ=>if Nat.beq ti.size aZ then Nq i n fun j=>κ ⟨.bp id (j*aZ),[],0⟩ else none
   | _=>none
  | none=>none
 | _,_=>none
theorem XC {o:Oper} {s:bK} {κ:cC→Option R} {z:R} {x y:Operand} {t:TypeId} (ho:o.op=.indexAddr t x y) (hs:s.ok) (h:UW P s.H t (s.val x) (s.val y) κ=some z):we P o s κ z:=by
 unfold UW at h
 split at h
 ·rename_i k i et hy ht
  have h2:dT s.st y (.int k i):=b8 hy
  split at h
  ·rename_i ti hi
   split at h
   ·rename_i u xs hx
    split at h
    ·rename_i he
     obtain ⟨e,h⟩:=gh h
     obtain ⟨e1,e2⟩:=Q8 e
     have h1:dT s.st x (.fs (eR u) (List.length (α:=u.dn) xs) fun i j=>(rk u (List.getD (α:=u.dn) xs i u.df)).getD j .top):=b8 hx
     refine jv h (LI ho h1 h2 ht hi (Nat.eq_of_beq_eq_true he) e1 e2) ?_ (by simp only [TA.wf])
     simp only [TA.av]
     exact gZ.refl _
    ·cases h
   ·rename_i id hx
    split at h
    ·rename_i u v xs hb
     split at h
     ·rename_i he
      obtain ⟨e,h⟩:=gh h
      obtain ⟨e1,e2⟩:=Q8 e
      have h1:=@b8 s x _ hx
      simp only [TA.av,hb] at h1
      have hw:=fX hs x
      rw [hx] at hw
      simp only [TA.wf] at hw
      refine jv h (An ho h1 h2 ht hi (Nat.eq_of_beq_eq_true he) e1 e2) ?_ ?_
      ·simp only [TA.av,hb]
       exact gZ.refl _
      ·simp only [TA.wf]
       refine ⟨hw,fun t' v' Zz cd=>?_⟩
       rw [hb] at cd
       cases cd
       omega
     ·cases h
    ·rename_i u v xs _ _ hb
     split at h
     ·rename_i he
      obtain ⟨e,h⟩:=gh h
      obtain ⟨e1,e2⟩:=Q8 e
      have h1:=@b8 s x _ hx
      simp only [TA.av,hb] at h1
      have hw:=fX hs x
      rw [hx] at hw
      simp only [TA.wf] at hw
      refine jv h (An ho h1 h2 ht hi (Nat.eq_of_beq_eq_true he) e1 e2) ?_ ?_
      ·simp only [TA.av,hb]
       exact gZ.refl _
      ·simp only [TA.wf]
       refine ⟨hw,fun t' v' Zz cd=>?_⟩
       rw [hb] at cd
       cases cd
       omega
     ·cases h
    ·cases h
   ·rename_i id n aZ hx
    split at h
    ·rename_i he
     obtain ⟨j,hj,Lj,h3⟩:=Li h
     subst Lj
     have h1:=@b8 s x _ hx
     simp only [TA.av] at h1
     have he:=Nat.eq_of_beq_eq_true he
     refine jv (rv:=.bp id (j*aZ)) h3 (bZ fun {w F O μ K ft a} g6=>?_) (by simp only [TA.av];exact gZ.refl _) (by simp only [TA.wf])
     have hv:=h1 g6
     have h':=(h2 g6).c_
     generalize F_:a.eval x=v at hv
     cases hv with
     | ms _ _ _ _ cap sz t' bY hc rO fw=>
      refine ⟨.pointer (some ⟨μ id,j*aZ,none⟩),?_,.bp id (j*aZ) bY⟩
      have c2:(j:Int) < (n:Int):=by omega
      simp [execOp,ho,F_,h',Instr.indexAt,asIntOf,cl ht,hj,gy hi,he,xN]
    ·cases h
   ·cases h
  ·cases h
 ·cases h
end Go.Proofs.YtljfmaaadnoggaaGreatDoor.cU
