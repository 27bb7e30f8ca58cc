/- The evaluator of operations, and that it is sound: all but calls. No condition. -/
import Derived.Test.YtljfmaaadnoggaaGreatDoorVIB
namespace Go.Proofs.YtljfmaaadnoggaaGreatDoor.cX
open Go Go.RowKit
variable {w w' xW:World} {F F' Cq O O' wx:Nat→Prop} {μ bC kZ:Nat→Nat} {K K' Gg:Nat→Prop} {ft b8:Nat→Nat→Prop} {P:Program} {R:Type}
def bE (b:Bool) (x:Option R):Option R:=cond b x none
theorem gH {b:Bool} {x:Option R} {r:R} (h:bE b x=some r):b=true∧x=some r:=by
 cases b
 ·cases h
 ·exact ⟨rfl,h⟩
def bU (i:Int) (n:Nat):Bool:=decide (0≤i)&&decide (i < n)
theorem TZ {i:Int} {n:Nat} (h:bU i n=true):0≤i∧i < n:=by simpa [bU] using h
def adV (l h:Int) (n:Nat):Bool:=decide (0≤l)&&(decide (l≤h)&&decide (h≤n))
theorem Zd {l h:Int} {n:Nat} (e:adV l h n=true):0≤l∧l≤h∧h≤n:=by simpa [adV] using e
def SN (m n:List UInt8):Bool:=decide (m.length+n.length < 1099511627776)
def GM (l c:Int) (bytes:Nat):Bool:=decide (0≤l)&&(decide (l≤c)&&(decide (c*(bytes:Int)≤140737488355328)&&decide (c≤140737488355328)))
theorem XT {l c:Int} {n:Nat} (e:GM l c n=true):0≤l∧l≤c∧c*(n:Int)≤140737488355328∧c≤140737488355328:=by simpa [GM] using e
def tB (n bytes:Nat):Bool:=decide (n*bytes≤70368744177664)&&decide (n≤70368744177664)
theorem adW {n b:Nat} (e:tB n b=true):n*b≤70368744177664∧n≤70368744177664:=by simpa [tB] using e
def nth {α:Type} (d:α) (xs:List α) (i:Int):α:=xs.getD i.toNat d
def gK {α:Type} (xs:List α) (i:Int) (x:α):List α:=xs.set i.toNat x
structure Env where
 P:Program
 tc:List (Nat×Ty)
 mt:List (TypeId×String×FuncId)
 fz:List Nat
 mp:List (TypeId×Nat)
 dp:List Nat:=[]
def PX:List (Nat×Ty)→Nat→Option Ty
 | [],_=>none
 | (i,t)::r,k=>match Nat.beq k i with
  | true=>some t
  | false=>PX r k
def xY (P:Program) (o:Oper) (s:bQ) (κ:cE→Option R) (x:R):Prop:=∃ r,TOk P o s r∧PT s r∧κ r=some x
theorem kr {o:Oper} {s:bQ} {κ:cE→Option R} {x:R} {rv:AV} {v:TA} (hk:κ ⟨v,[],0⟩=some x) (h:de P o s.st ⟨rv,[],[]⟩) (hv:iu rv (v.av s.H)) (hw:v.wf s.H s.N):xY P o s κ x:=
 ⟨_,adR h hv,acn hw,hk⟩
theorem tr {o:Oper} {s:bQ} {κ:cE→Option R} {x:R} {v:TA} (hk:κ ⟨v,[],0⟩=some x) (h:de P o s.st ⟨v.av s.H,[],[]⟩) (hw:v.wf s.H s.N):xY P o s κ x:=
 kr hk h (iu.refl _) hw
theorem oa {o:Oper} {s:bQ} {κ:cE→Option R} {x:R} {y:cI} (hk:κ ⟨.d y,[],0⟩=some x) (h:de P o s.st ⟨cN y,[],[]⟩):xY P o s κ x:=
 tr hk (by simpa only [TA.av] using h) (by simp only [TA.wf])
def ahP (op:BinOp) (k:IntKind) (m n:Int):Option cI:=
 match op with
 | .add=>some ⟨.int k,aQ k m n⟩
 | .sub=>some ⟨.int k,bW k m n⟩
 | .mul=>some ⟨.int k,ZX k m n⟩
 | .and=>some ⟨.int k,ahB k m n⟩
 | .or=>some ⟨.int k,bOr k m n⟩
 | .xor=>some ⟨.int k,ahC k m n⟩
 | .eql=>some ⟨.bool,bL m n⟩
 | .neq=>some ⟨.bool,!bL m n⟩
 | .lss=>some ⟨.bool,bO m n⟩
 | .leq=>some ⟨.bool,ck m n⟩
 | .gtr=>some ⟨.bool,bO n m⟩
 | .geq=>some ⟨.bool,ck n m⟩
 | _=>none
theorem adX {op:BinOp} {k:IntKind} {m n:Int} {y:cI} (h:ahP op k m n=some y):acd op k m n=some (cN y):=by
 cases op<;>cases h<;>rfl
def ahQ (op:BinOp) (k:IntKind) (m n:Int):Option cI:=
 match op with
 | .quo=>some ⟨.int k,UI k m n⟩
 | .rem=>some ⟨.int k,yH m n⟩
 | _=>none
theorem adY {op:BinOp} {k:IntKind} {m n:Int} {y:cI} (h:ahQ op k m n=some y):ace op k m n=some (cN y):=by
 cases op<;>cases h<;>rfl
def aco (op:BinOp) (k:IntKind) (m n:Int):Option cI:=
 match op with
 | .shl=>some ⟨.int k,ahD k m n⟩
 | .shr=>some ⟨.int k,ahE k m n⟩
 | _=>none
theorem aaK {op:BinOp} {k:IntKind} {m n:Int} {y:cI} (h:aco op k m n=some y):TO op k m n=some (cN y):=by
 cases op<;>cases h<;>rfl
def ahR (op:BinOp) (m n:List UInt8):Option cI:=
 match op with
 | .eql=>some ⟨.bool,seq m n⟩
 | .neq=>some ⟨.bool,!seq m n⟩
 | .lss=>some ⟨.bool,slt m n⟩
 | .leq=>some ⟨.bool,slt m n||seq m n⟩
 | .gtr=>some ⟨.bool,!(slt m n||seq m n)⟩
 | .geq=>some ⟨.bool,!slt m n⟩
 | _=>none
theorem adZ {op:BinOp} {m n:List UInt8} {y:cI} (h:ahR op m n=some y):acg op m n=some (cN y):=by
 cases op<;>cases h<;>rfl
def ae5 (op:BinOp) (m n:Bool):Option cI:=
 match op with
 | .eql=>some ⟨.bool,beq m n⟩
 | .neq=>some ⟨.bool,!beq m n⟩
 | _=>none
theorem acp {op:BinOp} {m n:Bool} {y:cI} (h:ae5 op m n=some y):XF op m n=some (cN y):=by
 cases op<;>cases h<;>rfl
def isAdd:BinOp→Bool
 | .add=>true
 | _=>false
def ad0:Option TypeDesc→Bool
 | some .bool=>true
 | _=>false
def acq (P:Program) (op:BinOp) (t:TypeId) (x y:TA) (κ:cE→Option R):Option R:=
 match x,y with
 | .d ⟨.int k,m⟩,.d ⟨.int k',n⟩=>match aco op k m n with
  | some r=>bE (ck 0 n) (κ ⟨.d r,[],0⟩)
  | none=>if k=k' then (match ahP op k m n with
   | some r=>κ ⟨.d r,[],0⟩
   | none=>match ahQ op k m n with
    | some r=>bE (!bL n 0) (κ ⟨.d r,[],0⟩)
    | none=>none) else none
 | .d ⟨.str,m⟩,.d ⟨.str,n⟩=>match ahR op m n with
  | some r=>κ ⟨.d r,[],0⟩
  | none=>if isAdd op then bE (SN m n) (κ ⟨.d ⟨.str,List.append (α:=UInt8) m n⟩,[],0⟩) else none
 | .d ⟨.bool,m⟩,.d ⟨.bool,n⟩=>if ad0 (P.underlying t) then (match ae5 op m n with
  | some r=>κ ⟨.d r,[],0⟩
  | none=>none) else none
 | _,_=>none
theorem acr {o:Oper} {s:bQ} {κ:cE→Option R} {z:R} {op:BinOp} {t u:TypeId} {x y:Operand} (ho:o.op=.binOp op t x y u) (h:acq P op t (s.val x) (s.val y) κ=some z):xY P o s κ z:=by
 unfold acq at h
 split at h
 ·rename_i k m k' n hx hy
  have h1:ec s.st x (.int k m):=b9 hx
  have h2:ec s.st y (.int k' n):=b9 hy
  split at h
  ·rename_i r hr
   obtain ⟨e,h⟩:=gH h
   exact oa h (acf ho h1 h2 (aaK hr) (by simpa [ck] using e))
  ·split at h
   ·rename_i e
    subst e
    split at h
    ·rename_i r hr
     exact oa h (agh ho h1 h2 (adX hr))
    ·split at h
     ·rename_i r hr
      obtain ⟨e,h⟩:=gH h
      exact oa h (agi ho h1 h2 (adY hr) (by intro h0;simp [bL,h0] at e))
     ·cases h
   ·cases h
 ·rename_i m n hx hy
  have h1:ec s.st x (.str m):=b9 hx
  have h2:ec s.st y (.str n):=b9 hy
  split at h
  ·rename_i r hr
   exact oa h (agj ho h1 h2 (adZ hr))
  ·split at h
   ·rename_i ha
    have:op=.add:=by cases op<;>simp [isAdd] at ha<;>rfl
    subst this
    obtain ⟨e,h⟩:=gH h
    exact oa h (agk ho h1 h2 (by simpa [SN] using e))
   ·cases h
 ·rename_i m n hx hy
  have h1:ec s.st x (.bool m):=b9 hx
  have h2:ec s.st y (.bool n):=b9 hy
  split at h
  ·rename_i ht
   have ht':P.underlying t=some .bool:=by
    generalize P.underlying t=q at ht
    match q,ht with
    | some .bool,_=>rfl
   split at h
   ·rename_i r hr
    exact oa h (adK ho h1 h2 ht' (acp hr))
   ·cases h
  ·cases h
 ·cases h
def XU (c x y:TA) (κ:cE→Option R):Option R:=
 match c with
 | .d ⟨.bool,d⟩=>match x,y with
  | .d ⟨.bool,p⟩,.d ⟨.bool,q⟩=>κ ⟨.d ⟨.bool,cond (d:Bool) (p:Bool) (q:Bool)⟩,[],0⟩
  | x,y=>cond (d:Bool) (κ ⟨x,[],0⟩) (κ ⟨y,[],0⟩)
 | _=>none
theorem PY {o:Oper} {s:fU} {c x y:Operand} {v:AV} {d:Bool} (ho:o.op=.pick c x y) (hc:ec s c (.bool d)) (h:ec s (if d then x else y) v):de P o s ⟨v,[],[]⟩:=
 cd fun {w F O μ K ft a} hs=>by
  have e:=(hc hs).eR
  cases d with
  | true=>exact ⟨a.eval x,by simp only [execOp,ho,e,asBool];rfl,h hs⟩
  | false=>exact ⟨a.eval y,by simp only [execOp,ho,e,asBool];rfl,h hs⟩
theorem aaL {o:Oper} {s:bQ} {κ:cE→Option R} {z:R} {c x y:Operand} (ho:o.op=.pick c x y) (hs:s.ok) (h:XU (s.val c) (s.val x) (s.val y) κ=some z):xY P o s κ z:=by
 unfold XU at h
 split at h
 ·rename_i d hc
  have h0:ec s.st c (.bool d):=b9 hc
  split at h
  ·rename_i p q hx hy
   have h1:ec s.st x (.bool p):=b9 hx
   have h2:ec s.st y (.bool q):=b9 hy
   refine oa h (PY ho h0 ?_)
   cases d
   ·exact h2
   ·exact h1
  ·cases d with
   | true=>exact tr h (PY ho h0 (gj s x)) (gy hs x)
   | false=>exact tr h (PY ho h0 (gj s y)) (gy hs y)
 ·cases h
def MF (x:TA) (i:Nat) (κ:cE→Option R):Option R:=
 match x with
 | .ph l=>if (i+1).ble l.length then κ ⟨l.getD i .top,[],0⟩ else none
 | _=>none
theorem T2 {o:Oper} {s:bQ} {κ:cE→Option R} {z:R} {x:Operand} {i:Nat} (ho:o.op=.extract x i) (hs:s.ok) (h:MF (s.val x) i κ=some z):xY P o s κ z:=by
 unfold MF at h
 split at h
 ·rename_i l hx
  split at h
  ·rename_i hi
   have hi:i < l.length:=Nat.le_of_ble_eq_true hi
   have h1:=@b9 s x _ hx
   simp only [TA.av] at h1
   have hw:=gy hs x
   rw [hx] at hw
   simp only [TA.wf] at hw
   have:=PG (P:=P) ho h1 (i:=i) (by rw [bI];exact hi)
   rw [dH _ _ _ hi] at this
   exact tr h this (Dz hw i)
  ·cases h
 ·cases h
def agx (op:UnOp) (x:TA) (κ:cE→Option R):Option R:=
 match op,x with
 | .not,.d ⟨.bool,b⟩=>κ ⟨.d ⟨.bool,!(b:Bool)⟩,[],0⟩
 | .neg,.d ⟨.int k,n⟩=>κ ⟨.d ⟨.int k,aje k n⟩,[],0⟩
 | _,_=>none
theorem ad1 {o:Oper} {s:bQ} {κ:cE→Option R} {z:R} {x:Operand} {op:UnOp} {t:TypeId} (ho:o.op=.unOp op t x) (h:agx op (s.val x) κ=some z):xY P o s κ z:=by
 unfold agx at h
 split at h
 ·rename_i b hx
  have h1:ec s.st x (.bool b):=b9 hx
  exact oa h (age ho h1)
 ·rename_i k n hx
  have h1:ec s.st x (.int k n):=b9 hx
  exact oa h (agf ho h1)
 ·cases h
def T3 (P:Program) (t u:TypeId) (x:TA) (κ:cE→Option R):Option R:=
 match x,P.underlying t,P.underlying u with
 | .d ⟨.int _,m⟩,some _,some (.int k')=>κ ⟨.d ⟨.int k',Ao k' m⟩,[],0⟩
 | _,_,_=>none
theorem Sn {o:Oper} {s:bQ} {κ:cE→Option R} {z:R} {x:Operand} {t u:TypeId} (ho:o.op=.convert t u x) (h:T3 P t u (s.val x) κ=some z):xY P o s κ z:=by
 unfold T3 at h
 split at h
 ·rename_i k m d k' hx ht hu
  have h1:ec s.st x (.int k m):=b9 hx
  exact oa h (adJ ho h1 ht hu)
 ·cases h
def Ol (P:Program) (t:TypeId) (x y:TA) (κ:cE→Option R):Option R:=
 match x,y with
 | .d ⟨.str,m⟩,.d ⟨.int _,i⟩=>match P.underlying t with
  | some .string=>bE (bU i (List.length (α:=UInt8) m)) (κ ⟨.d ⟨.int .u8,BK m i⟩,[],0⟩)
  | _=>none
 | _,_=>none
theorem PZ {o:Oper} {s:bQ} {κ:cE→Option R} {z:R} {x y:Operand} {t:TypeId} (ho:o.op=.index t x y) (h:Ol P t (s.val x) (s.val y) κ=some z):xY P o s κ z:=by
 unfold Ol at h
 split at h
 ·rename_i m k i hx hy
  have h1:ec s.st x (.str m):=b9 hx
  have h2:ec s.st y (.int k i):=b9 hy
  split at h
  ·rename_i ht
   obtain ⟨e,h⟩:=gH h
   obtain ⟨e1,e2⟩:=TZ e
   exact oa h (agl ho h1 h2 ht e1 e2)
  ·cases h
 ·cases h
def aaM (a:TA) (off:Nat):Option TA:=
 match a with
 | .fp t x o=>some (.fp t x (o+off))
 | .bp id o=>some (.bp id (o+off))
 | .rp id i j=>some (.rp id i (j+off))
 | _=>none
theorem Ze {H:List (Nat×aY)} {N:Nat} {a r:TA} {off:Nat} (h:aaM a off=some r) (hw:a.wf H N):(a.av H=.top∨TP (a.av H) off=some (r.av H))∧r.wf H N:=by
 unfold aaM at h
 split at h
 ·cases h;exact ⟨.inr (by simp only [TA.av,TP]),by simp only [TA.wf]⟩
 ·cases h;exact ⟨.inr (by simp only [TA.av,TP]),by simp only [TA.wf]⟩
 ·rename_i id i j
  cases h
  simp only [TA.wf] at hw ⊢
  refine ⟨?_,hw⟩
  simp only [TA.av]
  cases fM (aR H id) with
  | none=>exact .inl rfl
  | some b=>exact .inr (by simp only [TP])
 ·cases h
def known (H:List (Nat×aY)):TA→Bool
 | .rp id _ _=>(fM (aR H id)).isSome
 | _=>true
theorem P0 {H:List (Nat×aY)} {N:Nat} {a r:TA} {off:Nat} (h:aaM a off=some r) (hw:a.wf H N) (hk:known H a=true):TP (a.av H) off=some (r.av H):=by
 rcases (Ze h hw).1 with e | e
 ·unfold aaM at h
  split at h
  ·simp only [TA.av] at e;cases e
  ·simp only [TA.av] at e;cases e
  ·rename_i id i j
   simp only [known] at hk
   simp only [TA.av] at e
   cases hb:fM (aR H id) with
   | none=>rw [hb] at hk;cases hk
   | some x=>rw [hb] at e;cases e
  ·cases h
 ·exact e
def Gu (P:Program) (H:List (Nat×aY)) (t:TypeId) (x:TA) (k:Nat) (κ:cE→Option R):Option R:=
 match Y3 P t k with
 | some off=>match aaM x off with
  | some r=>if known H x then κ ⟨r,[],0⟩ else none
  | none=>none
 | none=>none
theorem P2 {o:Oper} {s:bQ} {κ:cE→Option R} {z:R} {x:Operand} {t:TypeId} {k:Nat} (ho:o.op=.fieldAddr t x k) (hs:s.ok) (h:Gu P s.H t (s.val x) k κ=some z):xY P o s κ z:=by
 unfold Gu at h
 split at h
 ·rename_i off hf
  split at h
  ·rename_i r hr
   split at h
   ·rename_i hk
    exact tr h (TQ ho (gj s x) hf (P0 hr (gy hs x) hk)) (Ze hr (gy hs x)).2
   ·cases h
  ·cases h
 ·cases h
def JI (H:List (Nat×aY)) (x:TA) (κ:cE→Option R):Option R:=
 match aaM x 0 with
 | some _=>if known H x then κ ⟨x,[],0⟩ else none
 | none=>none
theorem Rp {o:Oper} {s:bQ} {κ:cE→Option R} {z:R} {x:Operand} (ho:o.op=.nilCheck x) (hs:s.ok) (h:JI s.H (s.val x) κ=some z):xY P o s κ z:=by
 unfold JI at h
 split at h
 ·rename_i r hr
  split at h
  ·rename_i hk
   exact tr h (VJ ho (gj s x) (P0 hr (gy hs x) hk)) (gy hs x)
  ·cases h
 ·cases h
def P3 (i:Int) (n:Nat) (f:Nat→Option R):Option R:=go i f n 0
where
 go (i:Int) (f:Nat→Option R):Nat→Nat→Option R
  | 0,_=>none
  | n+1,j=>cond (bL i (j:Int)) (f j) (go i f n (j+1))
theorem NB {i:Int} {n:Nat} {f:Nat→Option R} {x:R} (h:P3 i n f=some x):∃ j,j < n∧i=(j:Int)∧f j=some x:=by
 have key:∀ n j,P3.go i f n j=some x→∃ k,j≤k∧k < j+n∧i=(k:Int)∧f k=some x:=by
  intro n
  induction n with
  | zero=>intro j h;cases h
  | succ n ih=>
   intro j h
   simp only [P3.go] at h
   cases e:bL i (j:Int) with
   | true=>
    rw [e] at h
    exact ⟨j,Nat.le_refl _,by omega,by simpa [bL] using e,h⟩
   | false=>
    rw [e] at h
    obtain ⟨k,h1,h2,h3⟩:=ih (j+1) h
    exact ⟨k,by omega,by omega,h3⟩
 obtain ⟨k,h1,h2,h3⟩:=key n 0 h
 exact ⟨k,by omega,h3⟩
def XV (P:Program) (H:List (Nat×aY)) (t:TypeId) (x y:TA) (κ:cE→Option R):Option R:=
 match y,P.underlying t with
 | .d ⟨.int _,i⟩,some (.slice et)=>match P.info? et with
  | some ti=>match x with
   | .d ⟨.sl u,xs⟩=>if Nat.beq ti.size (fg u) then bE (bU i (List.length (α:=u.dn) xs)) (κ ⟨.fp u (nth u.df xs i) 0,[],0⟩) else none
   | .ow id=>match aR H id with
    | some (.row u _ xs)=>if Nat.beq ti.size (fg u) then bE (bU i xs.length) (κ ⟨.rp id i 0,[],0⟩) else none
    | some (.da u _ xs _ _)=>if Nat.beq ti.size (fg u) then bE (bU i xs.length) (κ ⟨.rp id i 0,[],0⟩) else none
    | _=>none
   | .bs id n bB=>if Nat.beq ti.size bB then P3 i n fun j=>κ ⟨.bp id (j*bB),[],0⟩ else none
   | _=>none
  | none=>none
 | _,_=>none
theorem aaN {o:Oper} {s:bQ} {κ:cE→Option R} {z:R} {x y:Operand} {t:TypeId} (ho:o.op=.indexAddr t x y) (hs:s.ok) (h:XV P s.H t (s.val x) (s.val y) κ=some z):xY P o s κ z:=by
 unfold XV at h
 split at h
 ·rename_i k i et hy ht
  have h2:ec s.st y (.int k i):=b9 hy
  split at h
  ·rename_i ti hi
   split at h
   ·rename_i u xs hx
    split at h
    ·rename_i he
     obtain ⟨e,h⟩:=gH h
     obtain ⟨e1,e2⟩:=TZ e
     have h1:ec s.st x (.fs (fg u) (List.length (α:=u.dn) xs) fun i j=>(sV u (List.getD (α:=u.dn) xs i u.df)).getD j .top):=b9 hx
     refine kr h (N2 ho h1 h2 ht hi (Nat.eq_of_beq_eq_true he) e1 e2) ?_ (by simp only [TA.wf])
     simp only [TA.av]
     exact iu.refl _
    ·cases h
   ·rename_i id hx
    split at h
    ·rename_i u v xs hb
     split at h
     ·rename_i he
      obtain ⟨e,h⟩:=gH h
      obtain ⟨e1,e2⟩:=TZ e
      have h1:=@b9 s x _ hx
      simp only [TA.av,hb] at h1
      have hw:=gy hs x
      rw [hx] at hw
      simp only [TA.wf] at hw
      refine kr h (Cr ho h1 h2 ht hi (Nat.eq_of_beq_eq_true he) e1 e2) ?_ ?_
      ·simp only [TA.av,hb]
       exact iu.refl _
      ·simp only [TA.wf]
       refine ⟨hw,fun t' v' xs' cu=>?_⟩
       rw [hb] at cu
       cases cu
       omega
     ·cases h
    ·rename_i u v xs _ _ hb
     split at h
     ·rename_i he
      obtain ⟨e,h⟩:=gH h
      obtain ⟨e1,e2⟩:=TZ e
      have h1:=@b9 s x _ hx
      simp only [TA.av,hb] at h1
      have hw:=gy hs x
      rw [hx] at hw
      simp only [TA.wf] at hw
      refine kr h (Cr ho h1 h2 ht hi (Nat.eq_of_beq_eq_true he) e1 e2) ?_ ?_
      ·simp only [TA.av,hb]
       exact iu.refl _
      ·simp only [TA.wf]
       refine ⟨hw,fun t' v' xs' cu=>?_⟩
       rw [hb] at cu
       cases cu
       omega
     ·cases h
    ·cases h
   ·rename_i id n bB hx
    split at h
    ·rename_i he
     obtain ⟨j,hj,LH,h3⟩:=NB h
     subst LH
     have h1:=@b9 s x _ hx
     simp only [TA.av] at h1
     have he:=Nat.eq_of_beq_eq_true he
     refine kr (rv:=.bp id (j*bB)) h3 (cd fun {w F O μ K ft a} iJ=>?_) (by simp only [TA.av];exact iu.refl _) (by simp only [TA.wf])
     have hv:=h1 iJ
     have h':=(h2 iJ).dd
     generalize Gp:a.eval x=v at hv
     cases hv with
     | ms _ _ _ _ cap sz t' cb hc tA fL=>
      refine ⟨.pointer (some ⟨μ id,j*bB,none⟩),?_,.bp id (j*bB) cb⟩
      have c2:(j:Int) < (n:Int):=by omega
      simp [execOp,ho,Gp,h',Instr.indexAt,asIntOf,ct ht,hj,gY hi,he,zU]
    ·cases h
   ·cases h
  ·cases h
 ·cases h
end Go.Proofs.YtljfmaaadnoggaaGreatDoor.cX
