/- The evaluator of operations, and that it is sound: all but calls. No condition. -/
import Derived.Test.YtljfmaaadnoggaaVIB
namespace Go.Proofs.Ytljfmaaadnoggaa.Abs
open Go Go.RowKit
variable {w w' w'':World} {F F' F'' O O' O'':Nat→Prop} {μ μ' μ'':Nat→Nat} {K K' K'':Nat→Prop} {ft ft':Nat→Nat→Prop} {P:Program} {R:Type}
def req (b:Bool) (x:Option R):Option R:=cond b x none
theorem req_some {b:Bool} {x:Option R} {r:R} (h:req b x=some r):b=true∧x=some r:=by
 cases b
 ·cases h
 ·exact ⟨rfl,h⟩
def inb (i:Int) (n:Nat):Bool:=decide (0≤i)&&decide (i < n)
theorem inb_ok {i:Int} {n:Nat} (h:inb i n=true):0≤i∧i < n:=by simpa [inb] using h
def subB (l h:Int) (n:Nat):Bool:=decide (0≤l)&&(decide (l≤h)&&decide (h≤n))
theorem subB_ok {l h:Int} {n:Nat} (e:subB l h n=true):0≤l∧l≤h∧h≤n:=by simpa [subB] using e
def catB (m n:List UInt8):Bool:=decide (m.length+n.length < 1099511627776)
def mkB (l c:Int) (bytes:Nat):Bool:=decide (0≤l)&&(decide (l≤c)&&(decide (c*(bytes:Int)≤140737488355328)&&decide (c≤140737488355328)))
theorem mkB_ok {l c:Int} {n:Nat} (e:mkB l c n=true):0≤l∧l≤c∧c*(n:Int)≤140737488355328∧c≤140737488355328:=by simpa [mkB] using e
def appB (n bytes:Nat):Bool:=decide (n*bytes≤70368744177664)&&decide (n≤70368744177664)
theorem appB_ok {n b:Nat} (e:appB n b=true):n*b≤70368744177664∧n≤70368744177664:=by simpa [appB] using e
def nth {α:Type} (d:α) (xs:List α) (i:Int):α:=xs.getD i.toNat d
def put' {α:Type} (xs:List α) (i:Int) (x:α):List α:=xs.set i.toNat x
structure Env where
 P:Program
 tc:List (Nat×Ty)
 mt:List (TypeId×String×FuncId)
 fz:List Nat
 mp:List (TypeId×Nat)
 dp:List Nat:=[]
def tyOf:List (Nat×Ty)→Nat→Option Ty
 | [],_=>none
 | (i,t)::r,k=>match Nat.beq k i with
  | true=>some t
  | false=>tyOf r k
def EvR (P:Program) (o:Oper) (s:TSt) (κ:TRes→Option R) (x:R):Prop:=∃ r,TOk P o s r∧TGood s r∧κ r=some x
theorem evr_val {o:Oper} {s:TSt} {κ:TRes→Option R} {x:R} {rv:AV} {v:TA} (hk:κ ⟨v,[],0⟩=some x) (h:OpOk P o s.st ⟨rv,[],[]⟩) (hv:Imp rv (v.av s.H)) (hw:v.wf s.H s.N):EvR P o s κ x:=
 ⟨_,tok_val h hv,good_val hw,hk⟩
theorem evr_eq {o:Oper} {s:TSt} {κ:TRes→Option R} {x:R} {v:TA} (hk:κ ⟨v,[],0⟩=some x) (h:OpOk P o s.st ⟨v.av s.H,[],[]⟩) (hw:v.wf s.H s.N):EvR P o s κ x:=
 evr_val hk h (Imp.refl _) hw
theorem evr_d {o:Oper} {s:TSt} {κ:TRes→Option R} {x:R} {y:Dyn} (hk:κ ⟨.d y,[],0⟩=some x) (h:OpOk P o s.st ⟨dav y,[],[]⟩):EvR P o s κ x:=
 evr_eq hk (by simpa only [TA.av] using h) (by simp only [TA.wf])
def intT (op:BinOp) (k:IntKind) (m n:Int):Option Dyn:=
 match op with
 | .add=>some ⟨.int k,iadd k m n⟩
 | .sub=>some ⟨.int k,isub k m n⟩
 | .mul=>some ⟨.int k,imul k m n⟩
 | .and=>some ⟨.int k,bAnd k m n⟩
 | .or=>some ⟨.int k,bOr k m n⟩
 | .xor=>some ⟨.int k,bXor k m n⟩
 | .eql=>some ⟨.bool,ieq m n⟩
 | .neq=>some ⟨.bool,!ieq m n⟩
 | .lss=>some ⟨.bool,ilt m n⟩
 | .leq=>some ⟨.bool,ile m n⟩
 | .gtr=>some ⟨.bool,ilt n m⟩
 | .geq=>some ⟨.bool,ile n m⟩
 | _=>none
theorem intT_ok {op:BinOp} {k:IntKind} {m n:Int} {y:Dyn} (h:intT op k m n=some y):intOp op k m n=some (dav y):=by
 cases op<;>cases h<;>rfl
def divT (op:BinOp) (k:IntKind) (m n:Int):Option Dyn:=
 match op with
 | .quo=>some ⟨.int k,iquo k m n⟩
 | .rem=>some ⟨.int k,irem m n⟩
 | _=>none
theorem divT_ok {op:BinOp} {k:IntKind} {m n:Int} {y:Dyn} (h:divT op k m n=some y):divOp op k m n=some (dav y):=by
 cases op<;>cases h<;>rfl
def shiftT (op:BinOp) (k:IntKind) (m n:Int):Option Dyn:=
 match op with
 | .shl=>some ⟨.int k,bShl k m n⟩
 | .shr=>some ⟨.int k,bShr k m n⟩
 | _=>none
theorem shiftT_ok {op:BinOp} {k:IntKind} {m n:Int} {y:Dyn} (h:shiftT op k m n=some y):shiftOp op k m n=some (dav y):=by
 cases op<;>cases h<;>rfl
def strT (op:BinOp) (m n:List UInt8):Option Dyn:=
 match op with
 | .eql=>some ⟨.bool,seq m n⟩
 | .neq=>some ⟨.bool,!seq m n⟩
 | .lss=>some ⟨.bool,slt m n⟩
 | .leq=>some ⟨.bool,slt m n||seq m n⟩
 | .gtr=>some ⟨.bool,!(slt m n||seq m n)⟩
 | .geq=>some ⟨.bool,!slt m n⟩
 | _=>none
theorem strT_ok {op:BinOp} {m n:List UInt8} {y:Dyn} (h:strT op m n=some y):strOp op m n=some (dav y):=by
 cases op<;>cases h<;>rfl
def boolT (op:BinOp) (m n:Bool):Option Dyn:=
 match op with
 | .eql=>some ⟨.bool,beq m n⟩
 | .neq=>some ⟨.bool,!beq m n⟩
 | _=>none
theorem boolT_ok {op:BinOp} {m n:Bool} {y:Dyn} (h:boolT op m n=some y):boolOp op m n=some (dav y):=by
 cases op<;>cases h<;>rfl
def isAdd:BinOp→Bool
 | .add=>true
 | _=>false
def isBoolD:Option TypeDesc→Bool
 | some .bool=>true
 | _=>false
def evBin (P:Program) (op:BinOp) (t:TypeId) (x y:TA) (κ:TRes→Option R):Option R:=
 match x,y with
 | .d ⟨.int k,m⟩,.d ⟨.int k',n⟩=>match shiftT op k m n with
  | some r=>req (ile 0 n) (κ ⟨.d r,[],0⟩)
  | none=>if k=k' then (match intT op k m n with
   | some r=>κ ⟨.d r,[],0⟩
   | none=>match divT op k m n with
    | some r=>req (!ieq n 0) (κ ⟨.d r,[],0⟩)
    | none=>none) else none
 | .d ⟨.str,m⟩,.d ⟨.str,n⟩=>match strT op m n with
  | some r=>κ ⟨.d r,[],0⟩
  | none=>if isAdd op then req (catB m n) (κ ⟨.d ⟨.str,List.append (α:=UInt8) m n⟩,[],0⟩) else none
 | .d ⟨.bool,m⟩,.d ⟨.bool,n⟩=>if isBoolD (P.underlying t) then (match boolT op m n with
  | some r=>κ ⟨.d r,[],0⟩
  | none=>none) else none
 | _,_=>none
theorem evBin_ok {o:Oper} {s:TSt} {κ:TRes→Option R} {z:R} {op:BinOp} {t u:TypeId} {x y:Operand} (ho:o.op=.binOp op t x y u) (h:evBin P op t (s.val x) (s.val y) κ=some z):EvR P o s κ z:=by
 unfold evBin at h
 split at h
 ·rename_i k m k' n hx hy
  have h1:Opd s.st x (.int k m):=opd_at hx
  have h2:Opd s.st y (.int k' n):=opd_at hy
  split at h
  ·rename_i r hr
   obtain ⟨e,h⟩:=req_some h
   exact evr_d h (op_shift ho h1 h2 (shiftT_ok hr) (by simpa [ile] using e))
  ·split at h
   ·rename_i e
    subst e
    split at h
    ·rename_i r hr
     exact evr_d h (op_int ho h1 h2 (intT_ok hr))
    ·split at h
     ·rename_i r hr
      obtain ⟨e,h⟩:=req_some h
      exact evr_d h (op_div ho h1 h2 (divT_ok hr) (by intro h0;simp [ieq,h0] at e))
     ·cases h
   ·cases h
 ·rename_i m n hx hy
  have h1:Opd s.st x (.str m):=opd_at hx
  have h2:Opd s.st y (.str n):=opd_at hy
  split at h
  ·rename_i r hr
   exact evr_d h (op_str ho h1 h2 (strT_ok hr))
  ·split at h
   ·rename_i ha
    have:op=.add:=by cases op<;>simp [isAdd] at ha<;>rfl
    subst this
    obtain ⟨e,h⟩:=req_some h
    exact evr_d h (op_cat ho h1 h2 (by simpa [catB] using e))
   ·cases h
 ·rename_i m n hx hy
  have h1:Opd s.st x (.bool m):=opd_at hx
  have h2:Opd s.st y (.bool n):=opd_at hy
  split at h
  ·rename_i ht
   have ht':P.underlying t=some .bool:=by
    generalize P.underlying t=q at ht
    match q,ht with
    | some .bool,_=>rfl
   split at h
   ·rename_i r hr
    exact evr_d h (op_bool ho h1 h2 ht' (boolT_ok hr))
   ·cases h
  ·cases h
 ·cases h
def evPick (c x y:TA) (κ:TRes→Option R):Option R:=
 match c with
 | .d ⟨.bool,d⟩=>match x,y with
  | .d ⟨.bool,p⟩,.d ⟨.bool,q⟩=>κ ⟨.d ⟨.bool,cond (d:Bool) (p:Bool) (q:Bool)⟩,[],0⟩
  | x,y=>cond (d:Bool) (κ ⟨x,[],0⟩) (κ ⟨y,[],0⟩)
 | _=>none
theorem op_pick1 {o:Oper} {s:SSt} {c x y:Operand} {v:AV} {d:Bool} (ho:o.op=.pick c x y) (hc:Opd s c (.bool d)) (h:Opd s (if d then x else y) v):OpOk P o s ⟨v,[],[]⟩:=
 opok_value fun {w F O μ K ft a} hs=>by
  have e:=(hc hs).bool_inv
  cases d with
  | true=>exact ⟨a.eval x,by simp only [execOp,ho,e,asBool];rfl,h hs⟩
  | false=>exact ⟨a.eval y,by simp only [execOp,ho,e,asBool];rfl,h hs⟩
theorem evPick_ok {o:Oper} {s:TSt} {κ:TRes→Option R} {z:R} {c x y:Operand} (ho:o.op=.pick c x y) (hs:s.ok) (h:evPick (s.val c) (s.val x) (s.val y) κ=some z):EvR P o s κ z:=by
 unfold evPick at h
 split at h
 ·rename_i d hc
  have h0:Opd s.st c (.bool d):=opd_at hc
  split at h
  ·rename_i p q hx hy
   have h1:Opd s.st x (.bool p):=opd_at hx
   have h2:Opd s.st y (.bool q):=opd_at hy
   refine evr_d h (op_pick1 ho h0 ?_)
   cases d
   ·exact h2
   ·exact h1
  ·cases d with
   | true=>exact evr_eq h (op_pick1 ho h0 (opd_val s x)) (val_wf hs x)
   | false=>exact evr_eq h (op_pick1 ho h0 (opd_val s y)) (val_wf hs y)
 ·cases h
def evExtract (x:TA) (i:Nat) (κ:TRes→Option R):Option R:=
 match x with
 | .tup l=>if (i+1).ble l.length then κ ⟨l.getD i .top,[],0⟩ else none
 | _=>none
theorem evExtract_ok {o:Oper} {s:TSt} {κ:TRes→Option R} {z:R} {x:Operand} {i:Nat} (ho:o.op=.extract x i) (hs:s.ok) (h:evExtract (s.val x) i κ=some z):EvR P o s κ z:=by
 unfold evExtract at h
 split at h
 ·rename_i l hx
  split at h
  ·rename_i hi
   have hi:i < l.length:=Nat.le_of_ble_eq_true hi
   have h1:=@opd_at s x _ hx
   simp only [TA.av] at h1
   have hw:=val_wf hs x
   rw [hx] at hw
   simp only [TA.wf] at hw
   have:=op_extract (P:=P) ho h1 (i:=i) (by rw [avL_length];exact hi)
   rw [avL_getD _ _ _ hi] at this
   exact evr_eq h this (getD_wf hw i)
  ·cases h
 ·cases h
def evUn (op:UnOp) (x:TA) (κ:TRes→Option R):Option R:=
 match op,x with
 | .not,.d ⟨.bool,b⟩=>κ ⟨.d ⟨.bool,!(b:Bool)⟩,[],0⟩
 | .neg,.d ⟨.int k,n⟩=>κ ⟨.d ⟨.int k,ineg k n⟩,[],0⟩
 | _,_=>none
theorem evUn_ok {o:Oper} {s:TSt} {κ:TRes→Option R} {z:R} {x:Operand} {op:UnOp} {t:TypeId} (ho:o.op=.unOp op t x) (h:evUn op (s.val x) κ=some z):EvR P o s κ z:=by
 unfold evUn at h
 split at h
 ·rename_i b hx
  have h1:Opd s.st x (.bool b):=opd_at hx
  exact evr_d h (op_not ho h1)
 ·rename_i k n hx
  have h1:Opd s.st x (.int k n):=opd_at hx
  exact evr_d h (op_neg ho h1)
 ·cases h
def evConv (P:Program) (t u:TypeId) (x:TA) (κ:TRes→Option R):Option R:=
 match x,P.underlying t,P.underlying u with
 | .d ⟨.int _,m⟩,some _,some (.int k')=>κ ⟨.d ⟨.int k',iconv k' m⟩,[],0⟩
 | _,_,_=>none
theorem evConv_ok {o:Oper} {s:TSt} {κ:TRes→Option R} {z:R} {x:Operand} {t u:TypeId} (ho:o.op=.convert t u x) (h:evConv P t u (s.val x) κ=some z):EvR P o s κ z:=by
 unfold evConv at h
 split at h
 ·rename_i k m d k' hx ht hu
  have h1:Opd s.st x (.int k m):=opd_at hx
  exact evr_d h (op_conv ho h1 ht hu)
 ·cases h
def evIndex (P:Program) (t:TypeId) (x y:TA) (κ:TRes→Option R):Option R:=
 match x,y with
 | .d ⟨.str,m⟩,.d ⟨.int _,i⟩=>match P.underlying t with
  | some .string=>req (inb i (List.length (α:=UInt8) m)) (κ ⟨.d ⟨.int .u8,sidx m i⟩,[],0⟩)
  | _=>none
 | _,_=>none
theorem evIndex_ok {o:Oper} {s:TSt} {κ:TRes→Option R} {z:R} {x y:Operand} {t:TypeId} (ho:o.op=.index t x y) (h:evIndex P t (s.val x) (s.val y) κ=some z):EvR P o s κ z:=by
 unfold evIndex at h
 split at h
 ·rename_i m k i hx hy
  have h1:Opd s.st x (.str m):=opd_at hx
  have h2:Opd s.st y (.int k i):=opd_at hy
  split at h
  ·rename_i ht
   obtain ⟨e,h⟩:=req_some h
   obtain ⟨e1,e2⟩:=inb_ok e
   exact evr_d h (op_idx ho h1 h2 ht e1 e2)
  ·cases h
 ·cases h
def addT (a:TA) (off:Nat):Option TA:=
 match a with
 | .fp t x o=>some (.fp t x (o+off))
 | .bp id o=>some (.bp id (o+off))
 | .rp id i j=>some (.rp id i (j+off))
 | _=>none
theorem addT_ok {H:List (Nat×TBlk)} {N:Nat} {a r:TA} {off:Nat} (h:addT a off=some r) (hw:a.wf H N):(a.av H=.top∨addA (a.av H) off=some (r.av H))∧r.wf H N:=by
 unfold addT at h
 split at h
 ·cases h;exact ⟨.inr (by simp only [TA.av,addA]),by simp only [TA.wf]⟩
 ·cases h;exact ⟨.inr (by simp only [TA.av,addA]),by simp only [TA.wf]⟩
 ·rename_i id i j
  cases h
  simp only [TA.wf] at hw ⊢
  refine ⟨?_,hw⟩
  simp only [TA.av]
  cases shp (lookH H id) with
  | none=>exact .inl rfl
  | some b=>exact .inr (by simp only [addA])
 ·cases h
def known (H:List (Nat×TBlk)):TA→Bool
 | .rp id _ _=>(shp (lookH H id)).isSome
 | _=>true
theorem addT_known {H:List (Nat×TBlk)} {N:Nat} {a r:TA} {off:Nat} (h:addT a off=some r) (hw:a.wf H N) (hk:known H a=true):addA (a.av H) off=some (r.av H):=by
 rcases (addT_ok h hw).1 with e | e
 ·unfold addT at h
  split at h
  ·simp only [TA.av] at e;cases e
  ·simp only [TA.av] at e;cases e
  ·rename_i id i j
   simp only [known] at hk
   simp only [TA.av] at e
   cases hb:shp (lookH H id) with
   | none=>rw [hb] at hk;cases hk
   | some x=>rw [hb] at e;cases e
  ·cases h
 ·exact e
def evFieldAddr (P:Program) (H:List (Nat×TBlk)) (t:TypeId) (x:TA) (k:Nat) (κ:TRes→Option R):Option R:=
 match offOf P t k with
 | some off=>match addT x off with
  | some r=>if known H x then κ ⟨r,[],0⟩ else none
  | none=>none
 | none=>none
theorem evFieldAddr_ok {o:Oper} {s:TSt} {κ:TRes→Option R} {z:R} {x:Operand} {t:TypeId} {k:Nat} (ho:o.op=.fieldAddr t x k) (hs:s.ok) (h:evFieldAddr P s.H t (s.val x) k κ=some z):EvR P o s κ z:=by
 unfold evFieldAddr at h
 split at h
 ·rename_i off hf
  split at h
  ·rename_i r hr
   split at h
   ·rename_i hk
    exact evr_eq h (op_fieldAddr ho (opd_val s x) hf (addT_known hr (val_wf hs x) hk)) (addT_ok hr (val_wf hs x)).2
   ·cases h
  ·cases h
 ·cases h
def evNilCheck (H:List (Nat×TBlk)) (x:TA) (κ:TRes→Option R):Option R:=
 match addT x 0 with
 | some _=>if known H x then κ ⟨x,[],0⟩ else none
 | none=>none
theorem evNilCheck_ok {o:Oper} {s:TSt} {κ:TRes→Option R} {z:R} {x:Operand} (ho:o.op=.nilCheck x) (hs:s.ok) (h:evNilCheck s.H (s.val x) κ=some z):EvR P o s κ z:=by
 unfold evNilCheck at h
 split at h
 ·rename_i r hr
  split at h
  ·rename_i hk
   exact evr_eq h (op_nilCheck ho (opd_val s x) (addT_known hr (val_wf hs x) hk)) (val_wf hs x)
  ·cases h
 ·cases h
def splitI (i:Int) (n:Nat) (f:Nat→Option R):Option R:=go i f n 0
where
 go (i:Int) (f:Nat→Option R):Nat→Nat→Option R
  | 0,_=>none
  | n+1,j=>cond (ieq i (j:Int)) (f j) (go i f n (j+1))
theorem splitI_some {i:Int} {n:Nat} {f:Nat→Option R} {x:R} (h:splitI i n f=some x):∃ j,j < n∧i=(j:Int)∧f j=some x:=by
 have key:∀ n j,splitI.go i f n j=some x→∃ k,j≤k∧k < j+n∧i=(k:Int)∧f k=some x:=by
  intro n
  induction n with
  | zero=>intro j h;cases h
  | succ n ih=>
   intro j h
   simp only [splitI.go] at h
   cases e:ieq i (j:Int) with
   | true=>
    rw [e] at h
    exact ⟨j,Nat.le_refl _,by omega,by simpa [ieq] using e,h⟩
   | false=>
    rw [e] at h
    obtain ⟨k,h1,h2,h3⟩:=ih (j+1) h
    exact ⟨k,by omega,by omega,h3⟩
 obtain ⟨k,h1,h2,h3⟩:=key n 0 h
 exact ⟨k,by omega,h3⟩
def evIdxA (P:Program) (H:List (Nat×TBlk)) (t:TypeId) (x y:TA) (κ:TRes→Option R):Option R:=
 match y,P.underlying t with
 | .d ⟨.int _,i⟩,some (.slice et)=>match P.info? et with
  | some ti=>match x with
   | .d ⟨.sl u,xs⟩=>if Nat.beq ti.size (tsz u) then req (inb i (List.length (α:=u.dn) xs)) (κ ⟨.fp u (nth u.df xs i) 0,[],0⟩) else none
   | .ow id=>match lookH H id with
    | some (.row u _ xs)=>if Nat.beq ti.size (tsz u) then req (inb i xs.length) (κ ⟨.rp id i 0,[],0⟩) else none
    | some (.hrow u _ xs _ _)=>if Nat.beq ti.size (tsz u) then req (inb i xs.length) (κ ⟨.rp id i 0,[],0⟩) else none
    | _=>none
   | .bs id n esz=>if Nat.beq ti.size esz then splitI i n fun j=>κ ⟨.bp id (j*esz),[],0⟩ else none
   | _=>none
  | none=>none
 | _,_=>none
theorem evIdxA_ok {o:Oper} {s:TSt} {κ:TRes→Option R} {z:R} {x y:Operand} {t:TypeId} (ho:o.op=.indexAddr t x y) (hs:s.ok) (h:evIdxA P s.H t (s.val x) (s.val y) κ=some z):EvR P o s κ z:=by
 unfold evIdxA at h
 split at h
 ·rename_i k i et hy ht
  have h2:Opd s.st y (.int k i):=opd_at hy
  split at h
  ·rename_i ti hi
   split at h
   ·rename_i u xs hx
    split at h
    ·rename_i he
     obtain ⟨e,h⟩:=req_some h
     obtain ⟨e1,e2⟩:=inb_ok e
     have h1:Opd s.st x (.fs (tsz u) (List.length (α:=u.dn) xs) fun i j=>(tcells u (List.getD (α:=u.dn) xs i u.df)).getD j .top):=opd_at hx
     refine evr_val h (op_indexAddr_fs ho h1 h2 ht hi (Nat.eq_of_beq_eq_true he) e1 e2) ?_ (by simp only [TA.wf])
     simp only [TA.av]
     exact Imp.refl _
    ·cases h
   ·rename_i id hx
    split at h
    ·rename_i u v xs hb
     split at h
     ·rename_i he
      obtain ⟨e,h⟩:=req_some h
      obtain ⟨e1,e2⟩:=inb_ok e
      have h1:=@opd_at s x _ hx
      simp only [TA.av,hb] at h1
      have hw:=val_wf hs x
      rw [hx] at hw
      simp only [TA.wf] at hw
      refine evr_val h (op_indexAddr_own ho h1 h2 ht hi (Nat.eq_of_beq_eq_true he) e1 e2) ?_ ?_
      ·simp only [TA.av,hb]
       exact Imp.refl _
      ·simp only [TA.wf]
       refine ⟨hw,fun t' v' xs' hb'=>?_⟩
       rw [hb] at hb'
       cases hb'
       omega
     ·cases h
    ·rename_i u v xs _ _ hb
     split at h
     ·rename_i he
      obtain ⟨e,h⟩:=req_some h
      obtain ⟨e1,e2⟩:=inb_ok e
      have h1:=@opd_at s x _ hx
      simp only [TA.av,hb] at h1
      have hw:=val_wf hs x
      rw [hx] at hw
      simp only [TA.wf] at hw
      refine evr_val h (op_indexAddr_own ho h1 h2 ht hi (Nat.eq_of_beq_eq_true he) e1 e2) ?_ ?_
      ·simp only [TA.av,hb]
       exact Imp.refl _
      ·simp only [TA.wf]
       refine ⟨hw,fun t' v' xs' hb'=>?_⟩
       rw [hb] at hb'
       cases hb'
       omega
     ·cases h
    ·cases h
   ·rename_i id n esz hx
    split at h
    ·rename_i he
     obtain ⟨j,hj,hij,h3⟩:=splitI_some h
     subst hij
     have h1:=@opd_at s x _ hx
     simp only [TA.av] at h1
     have he:=Nat.eq_of_beq_eq_true he
     refine evr_val (rv:=.bp id (j*esz)) h3 (opok_value fun {w F O μ K ft a} hsr=>?_) (by simp only [TA.av];exact Imp.refl _) (by simp only [TA.wf])
     have hv:=h1 hsr
     have h':=(h2 hsr).int_inv
     generalize hev:a.eval x=v at hv
     cases hv with
     | ms _ _ _ _ cap sz t' hid hc hsh hsz=>
      refine ⟨.pointer (some ⟨μ id,j*esz,none⟩),?_,.bp id (j*esz) hid⟩
      have c2:(j:Int) < (n:Int):=by omega
      simp [execOp,ho,hev,h',Instr.indexAt,asIntOf,run_und ht,hj,run_siz hi,he,add_mk]
    ·cases h
   ·cases h
  ·cases h
 ·cases h
end Go.Proofs.Ytljfmaaadnoggaa.Abs
