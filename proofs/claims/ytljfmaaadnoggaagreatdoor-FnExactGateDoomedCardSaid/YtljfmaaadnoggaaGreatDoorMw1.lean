/- Plain words and laws. No condition. -/
import Derived.Test.YtljfmaaadnoggaaGreatDoorPvMk
set_option linter.unusedSimpArgs false
set_option linter.unusedVariables false
namespace Go.Proofs.YtljfmaaadnoggaaGreatDoor.Pu
open Go Go.RowKit Go.Proofs.YtljfmaaadnoggaaGreatDoor.cX Go.Proofs.YtljfmaaadnoggaaGreatDoor.Fn
theorem Yd.ofE {α:Type} {F:Nat→Option α} {a:α} (B:Nat) (h:∀ k,B≤k→F k=some a):Yd F a:=⟨B,h⟩
theorem bK {R:Type} (x:Option R):bE true x=x:=rfl
theorem aiS {α β γ:Type} (x:α) (f:α→γ) (g:β→γ):zd (.inl x) f g=f x:=rfl
theorem afo {α β γ:Type} (x:β) (f:α→γ) (g:β→γ):zd (.inr x) f g=g x:=rfl
theorem aiI {α β:Type} (x:α) (f:α→β):share x f=f x:=rfl
theorem b6 {i n:Nat} (h:i < n):bO (i:Int) (n:Int)=true:=mB (by omega)
theorem cf {n:Nat}:bO (n:Int) (n:Int)=false:=eh (by omega)
theorem bF {i n:Nat} (h:i < n):bU (i:Int) n=true:=Kt (by omega) (by omega)
theorem bH {i n:Nat} (hn:n≤1048576) (h:i < n):aQ .i64 (i:Int) 1=((i+1:Nat):Int):=by
 rw [sY (by omega) (by omega)];norm_cast
theorem qP {i:Nat} (h0:0 < i) (hi:i≤1048576):bW .i64 (i:Int) 1=((i-1:Nat):Int):=by
 rw [YB (by omega) (by omega)];omega
theorem A1 {i:Nat} (h:0 < i):bO 0 (i:Int)=true:=mB (by omega)
theorem sZ:bO 0 ((0:Nat):Int)=false:=rfl
theorem aiT {n:Nat} (h:n≤1048576):n≤maxLen:=by have:=max_eq;omega
theorem dG {α:Type} {x:List α} {i:Nat} (h:i < x.length):x[i]∈x:=List.getElem_mem h
theorem bR {α:Type} {d:α} {x:List α} {i:Nat} (hi:i < x.length):nth d x (i:Int)=x[i]:=Oc hi
section
variable {α R S:Type} {x:List α} {B:Nat}
theorem zF {p:α→Bool} {l:Nat→Int→R} {E O:R} (he:∀ k,l (k+1) (x.length:Int)=E)
  (h:∀ k i (hi:i < x.length),B≤k→l (k+1) (i:Int)=cond (p x[i]) O (l k ((i+1:Nat):Int))) (k:Nat) (hk:B+x.length+1≤k):l k 0=cond (x.any p) O E:=by
 have go:∀ m i k,i+m=x.length→B+m+1≤k→l k (i:Int)=cond ((x.drop i).any p) O E:=by
  intro m
  induction m with
  | zero=>
   intro i k h1 h2
   obtain rfl:i=x.length:=by omega
   obtain ⟨k,rfl⟩:∃ j,k=j+1:=⟨k-1,by omega⟩
   simp [he]
  | succ m ih=>
   intro i k h1 h2
   obtain ⟨k,rfl⟩:∃ j,k=j+1:=⟨k-1,by omega⟩
   have hi:i < x.length:=by omega
   rw [h k i hi (by omega),List.drop_eq_getElem_cons hi,List.any_cons]
   cases p x[i] with
   | true=>rfl
   | false=>simpa using ih (i+1) k (by omega) (by omega)
 have:=go x.length 0 k (by omega) (by omega)
 simpa using this
theorem gF {p:α→Bool} {l:Nat→Int→R} {E O:R} (he:∀ k,l (k+1) (x.length:Int)=E)
  (h:∀ k i (hi:i < x.length),B≤k→l (k+1) (i:Int)=cond (p x[i]) (l k ((i+1:Nat):Int)) O) (k:Nat) (hk:B+x.length+1≤k):l k 0=cond (x.all p) E O:=by
 have:=zF (p:=fun a=>!p a) (l:=l) (E:=E) (O:=O) he (fun k i hi hb=>by rw [h k i hi hb];cases p x[i]<;>rfl) k hk
 rw [this]
 have e:(x.any fun a=>!p a)=!x.all p:=by simp [List.any_eq_not_all_not]
 rw [e];cases x.all p<;>rfl
def scan (f:S→Nat→α→S ⊕ R):List α→Nat→S→S ⊕ R
 | [],_,s=>.inl s
 | a::r,i,s=>match f s i a with
  | .inl s'=>scan f r (i+1) s'
  | .inr y=>.inr y
def fin (J:S→R):S ⊕ R→R
 | .inl s=>J s
 | .inr y=>y
theorem OX {l:Nat→S→Int→R} {J:S→R} {f:S→Nat→α→S ⊕ R} (I:Nat→S→Prop)
  (he:∀ k s,I x.length s→l (k+1) s (x.length:Int)=J s)
  (h:∀ k i s (hi:i < x.length),B≤k→I i s→l (k+1) s (i:Int)=fin (fun s'=>l k s' ((i+1:Nat):Int)) (f s i x[i])∧∀ s',f s i x[i]=.inl s'→I (i+1) s'):
  ∀ m i k s,i+m=x.length→B+m+1≤k→I i s→l k s (i:Int)=fin J (scan f (x.drop i) i s):=by
 intro m
 induction m with
 | zero=>
  intro i k s h1 h2 h3
  obtain rfl:i=x.length:=by omega
  obtain ⟨k,rfl⟩:∃ j,k=j+1:=⟨k-1,by omega⟩
  rw [he k s h3,List.drop_length];rfl
 | succ m ih=>
  intro i k s h1 h2 h3
  obtain ⟨k,rfl⟩:∃ j,k=j+1:=⟨k-1,by omega⟩
  have hi:i < x.length:=by omega
  obtain ⟨h4,h5⟩:=h k i s hi (by omega) h3
  rw [h4,List.drop_eq_getElem_cons hi]
  simp only [scan]
  cases hf:f s i x[i] with
  | inl s'=>exact ih (i+1) k s' (by omega) (by omega) (h5 s' hf)
  | inr y=>rfl
theorem L4 {l:Nat→S→Int→R} {J:S→R} {f:S→Nat→α→S ⊕ R} (I:Nat→S→Prop)
  (he:∀ k s,I x.length s→l (k+1) s (x.length:Int)=J s)
  (h:∀ k i s (hi:i < x.length),B≤k→I i s→l (k+1) s (i:Int)=fin (fun s'=>l k s' ((i+1:Nat):Int)) (f s i x[i])∧∀ s',f s i x[i]=.inl s'→I (i+1) s')
  (k:Nat) (s:S) (hk:B+x.length+1≤k) (h0:I 0 s):l k s 0=fin J (scan f x 0 s):=by
 have:=OX I he h x.length 0 k s (by omega) hk h0
 simpa using this
theorem hY {l:Nat→S→Int→R} {J:S→R} {f:S→α→S} (I:Nat→S→Prop)
  (he:∀ k s,I x.length s→l (k+1) s (x.length:Int)=J s)
  (h:∀ k i s (hi:i < x.length),B≤k→I i s→l (k+1) s (i:Int)=l k (f s x[i]) ((i+1:Nat):Int)∧I (i+1) (f s x[i]))
  (k:Nat) (s:S) (hk:B+x.length+1≤k) (h0:I 0 s):l k s 0=J (x.foldl f s):=by
 have:=L4 (f:=fun s _ a=>.inl (f s a)) I he (fun k i s hi hb h0=>⟨(h k i s hi hb h0).1,fun s' e=>by cases e;exact (h k i s hi hb h0).2⟩) k s hk h0
 rw [this]
 have e:∀ (y:List α) i s,scan (R:=R) (fun s _ a=>.inl (f s a)) y i s=.inl (y.foldl f s):=by
  intro y
  induction y with
  | nil=>intro i s;rfl
  | cons a r ih=>intro i s;simp only [scan,List.foldl_cons];exact ih _ _
 rw [e];rfl
end
def bt (c:UInt8):Int:=(c.toNat:Int)
theorem OY (c:UInt8):0≤bt c∧bt c≤255:=by
 have:=c.toNat_lt
 simp only [bt];omega
theorem zG {s:List UInt8} {i:Nat} (h:i < s.length):BK s (i:Int)=bt s[i]:=by
 simp only [BK,Int.toNat_natCast,List.getD,bt]
 rw [List.getElem?_eq_getElem h];rfl
theorem pt {n b:Nat} (hn:n≤16777216) (hb:b≤100000):tB n b=true:=by
 have h1:n*b≤16777216*100000:=Nat.mul_le_mul hn hb
 simp only [tB,Bool.and_eq_true,decide_eq_true_eq]
 omega
theorem wrap_u8 {n:Int} (h0:0≤n) (h1:n≤255):IntKind.u8.wrap n=n:=by
 simp only [IntKind.wrap,IntKind.bits,IntKind.signed,Bool.false_and]
 split
 ·rename_i h;simp at h
 ·omega
theorem OZ (k:Nat) (a b c:Int):dA k a b c=some (ck b a&&ck a c):=by
 unfold dA
 cases ck b a<;>rfl
def nb (c:UInt8):Bool:=(ck 97 (bt c)&&ck (bt c) 122)||((ck 48 (bt c)&&ck (bt c) 57)||bL (bt c) 45)
theorem UT (k:Nat) (c:UInt8):vZ k (bt c)=some (nb c):=by
 unfold vZ nb
 cases ck 97 (bt c)<;>cases ck (bt c) 122<;>cases ck 48 (bt c)<;>cases ck (bt c) 57<;>cases bL (bt c) 45<;>rfl
theorem W3 (k:Nat) (c:UInt8):vf k (bt c)=some (nb c):=by
 unfold vf nb
 cases ck 97 (bt c)<;>cases ck (bt c) 122<;>cases ck 48 (bt c)<;>cases ck (bt c) 57<;>cases bL (bt c) 45<;>rfl
def cH (s:List UInt8):Bool:=ck 1 (s.length:Int)&&(ck (s.length:Int) 16&&s.all nb)
theorem eL {k:Nat} {s:List UInt8} (hk:4194304≤k) (hs:dq s):cA k s=some (cH s):=by
 unfold cA cH
 have h:=gF (x:=s) (p:=nb) (B:=0) (l:=fun k i=>iter (ts:=xB) (R:=Bool) k (ox (some true)) s i) (E:=some true) (O:=some false)
  (fun k=>by simp only [iter,ox,cf,cond_false]<;>rfl)
  (fun k i hi _=>by
   simp only [iter,ox,b6 hi,bF hi,cond_true,bK,zG hi,UT,Option.bind_some,bH hs hi]
   cases nb s[i]<;>rfl) k (by have:s.length≤1048576:=hs;omega)
 simp only [share,OZ,Option.bind_some,h]
 cases ck 1 (s.length:Int)<;>cases ck (s.length:Int) 16<;>cases s.all nb<;>rfl
theorem Na {k:Nat} {s:List UInt8} (hk:4194304≤k) (hs:dq s):fP k s=some (s.all nb):=by
 unfold fP
 have h:=gF (x:=s) (p:=nb) (B:=0) (l:=fun k i=>iter (ts:=v9) (R:=Bool) k (nz (some true)) s (s.length:Int) i) (E:=some true) (O:=some false)
  (fun k=>by simp only [iter,nz,cf,cond_false]<;>rfl)
  (fun k i hi _=>by
   simp only [iter,nz,b6 hi,bF hi,cond_true,bK,zG hi,W3,Option.bind_some,bH hs hi]
   cases nb s[i]<;>rfl) k (by have:s.length≤1048576:=hs;omega)
 simp only [share]
 exact h.trans (by cases s.all nb<;>rfl)
theorem gG {k:Nat} {s:List UInt8} (hk:4194304≤k) (hs:dq s):cS k s=some (cH s):=by
 unfold cS cH
 simp only [Na hk hs,Option.bind_some]
 cases ck 1 (s.length:Int)<;>cases ck (s.length:Int) 16<;>rfl
theorem YC (a b:Int):(!bO a b)=ck b a:=by
 by_cases h:a < b
 ·rw [mB h,UU (by omega)];rfl
 ·rw [eh h,Iv (by omega)];rfl
theorem cO (a b:Int):bO a b=!ck b a:=by rw [← YC];simp
theorem RD {s:List UInt8} (h:seq s []=true):cH s=false:=by
 have e:s=[]:=by simpa [seq] using h
 subst e;rfl
section
variable {α R S:Type} {x:List α} {B:Nat}
def chain (p:Option α→α→Bool):Option α→List α→Bool
 | _,[]=>true
 | q,a::r=>p q a&&chain p (some a) r
def ahead (x:List α) (i:Nat):Option α:=if i=0 then none else x[i-1]?
theorem l9:ahead x 0=none:=rfl
theorem l_ {i:Nat} (h:0 < i) (hi:i < x.length):ahead x i=some (x[i-1]'(by omega)):=by
 unfold ahead
 rw [if_neg (by omega)]
 exact List.getElem?_eq_getElem _
theorem fq {p:Option α→α→Bool} {l:Nat→Int→R} {E O:R} (he:∀ k,l (k+1) (x.length:Int)=E)
  (h:∀ k i (hi:i < x.length),B≤k→l (k+1) (i:Int)=cond (p (ahead x i) x[i]) (l k ((i+1:Nat):Int)) O) (k:Nat) (hk:B+x.length+1≤k):l k 0=cond (chain p none x) E O:=by
 have go:∀ m i k,i+m=x.length→B+m+1≤k→l k (i:Int)=cond (chain p (ahead x i) (x.drop i)) E O:=by
  intro m
  induction m with
  | zero=>
   intro i k h1 h2
   obtain rfl:i=x.length:=by omega
   obtain ⟨k,rfl⟩:∃ j,k=j+1:=⟨k-1,by omega⟩
   simp [he,chain]
  | succ m ih=>
   intro i k h1 h2
   obtain ⟨k,rfl⟩:∃ j,k=j+1:=⟨k-1,by omega⟩
   have hi:i < x.length:=by omega
   rw [h k i hi (by omega),List.drop_eq_getElem_cons hi]
   have e:some x[i]=ahead x (i+1):=by simp [ahead]
   simp only [chain,e]
   cases p (ahead x i) x[i] with
   | true=>simpa using ih (i+1) k (by omega) (by omega)
   | false=>rfl
 have:=go x.length 0 k (by omega) (by omega)
 simpa [ahead] using this
theorem ym {p q:Option α→α→Bool}:∀ (y:List α) (o:Option α),chain (fun o a=>p o a&&q o a) o y=(chain p o y&&chain q o y)
 | [],_=>rfl
 | a::r,o=>by
  simp only [chain,ym r]
  cases p o a<;>cases q o a<;>cases chain p (some a) r<;>rfl
theorem yn {p:α→Bool}:∀ (y:List α) (o:Option α),chain (fun _ a=>p a) o y=y.all p
 | [],_=>rfl
 | a::r,o=>by simp only [chain,yn r,List.all_cons]
theorem L5 {β:Type} {f:α→β} {p:Option β→β→Bool}:∀ (y:List α) (o:Option α),chain p (o.map f) (y.map f)=chain (fun o a=>p (o.map f) (f a)) o y
 | [],_=>rfl
 | a::r,o=>by simp only [List.map_cons,chain];rw [← L5 r];rfl
theorem O5 {p:α→Bool} {y:α}:lb p [] y=[y]:=rfl
theorem L6 {p:α→Bool} {a y:α} {l:List α}:lb p (a::l) y=cond (p a) (y::l) (a::lb p l y):=by
 unfold lb
 rw [List.findIdx?_cons]
 cases p a with
 | true=>rfl
 | false=>cases h:l.findIdx? p<;>simp [h]
theorem mL {β:Type} {p:α→Bool} {f:α→β} {d:β} {a:α} {l:List α}:ja p f d (a::l)=cond (p a) (f a) (ja p f d l):=by
 unfold ja
 rw [List.find?_cons]
 cases p a<;>rfl
theorem Ci {p:α→Bool} {a:α} {l:List α}:L7 p (a::l)=(p a||L7 p l):=by
 unfold L7
 rw [List.findIdx?_cons]
 cases p a<;>cases l.findIdx? p<;>rfl
theorem ee {a b:List UInt8}:seq a b=true↔a=b:=by simp [seq]
theorem Ku (a b:List UInt8):seq a b=seq b a:=by
 rw [Bool.eq_iff_iff,ee,ee];exact eq_comm
theorem L8 {β:Type} {key:α→List UInt8} {f:α→β} {d:β} {y:α} {n:List UInt8}:∀ {l:List α},ja (fun p=>seq n (key p)) f d (lb (fun p=>seq (key y) (key p)) l y)=cond (seq n (key y)) (f y) (ja (fun p=>seq n (key p)) f d l)
 | []=>by rw [O5,mL]
 | a::l=>by
  rw [L6]
  cases h:seq (key y) (key a) with
  | true=>
   have e:=ee.1 h
   rw [cond_true,mL,mL,← e]
   cases seq n (key y)<;>rfl
  | false=>
   rw [cond_false,mL,mL,L8]
   cases h1:seq n (key a) with
   | false=>rfl
   | true=>
    have e:=ee.1 h1
    subst e
    rw [show seq (key a) (key y)=false by rw [Ku];exact h];rfl
theorem Z2 {key:α→List UInt8} {y:α} {n:List UInt8}:∀ {l:List α},L7 (fun p=>seq n (key p)) (lb (fun p=>seq (key y) (key p)) l y)=(seq n (key y)||L7 (fun p=>seq n (key p)) l)
 | []=>by rw [O5,Ci]
 | a::l=>by
  rw [L6]
  cases h:seq (key y) (key a) with
  | true=>
   have e:=ee.1 h
   rw [cond_true,Ci,Ci,← e]
   cases seq n (key y)<;>rfl
  | false=>
   rw [cond_false,Ci,Ci,Z2]
   cases seq n (key a)<;>cases seq n (key y)<;>rfl
end
def Cj (q:Option (List UInt8)) (s:List UInt8):Bool:=cH s&&(match q with | none=>true | some p=>slt p s)
def qQ (xs:List (List UInt8)):Bool:=chain Cj none xs
abbrev Nm:=List UInt8
section
variable {α:Type} {x:List α} {B:Nat} {p:α→Bool}
def zH (p:α→Bool):List α→Nat→Int
 | [],_=>-1
 | a::r,i=>cond (p a) (i:Int) (zH p r (i+1))
theorem rD {l:Nat→Int→Option Int} (he:∀ k,l (k+1) (x.length:Int)=some (-1))
  (h:∀ k i (hi:i < x.length),l (k+1) (i:Int)=cond (p x[i]) (some (i:Int)) (l k ((i+1:Nat):Int))) (k:Nat) (hk:x.length+1≤k):l k 0=some (zH p x 0):=by
 have go:∀ m i k,i+m=x.length→m+1≤k→l k (i:Int)=some (zH p (x.drop i) i):=by
  intro m
  induction m with
  | zero=>
   intro i k h1 h2
   obtain rfl:i=x.length:=by omega
   obtain ⟨k,rfl⟩:∃ j,k=j+1:=⟨k-1,by omega⟩
   simp [he,zH]
  | succ m ih=>
   intro i k h1 h2
   obtain ⟨k,rfl⟩:∃ j,k=j+1:=⟨k-1,by omega⟩
   have hi:i < x.length:=by omega
   rw [h k i hi,List.drop_eq_getElem_cons hi]
   simp only [zH]
   cases p x[i] with
   | true=>rfl
   | false=>exact ih (i+1) k (by omega) (by omega)
 have:=go x.length 0 k (by omega) (by omega)
 simpa using this
theorem RF:∀ (y:List α) (i:Nat),(zH p y i=-1∧y.find? p=none)∨∃ j,∃ h:j < y.length,zH p y i=((i+j:Nat):Int)∧y.find? p=some y[j]∧p y[j]=true
 | [],i=>.inl ⟨rfl,rfl⟩
 | a::r,i=>by
  simp only [zH,List.find?_cons]
  cases ha:p a with
  | true=>exact .inr ⟨0,by simp,by simp,by simp,ha⟩
  | false=>
   rcases RF r (i+1) with ⟨h1,h2⟩ | ⟨j,hj,h1,h2,h3⟩
   ·exact .inl ⟨h1,h2⟩
   ·exact .inr ⟨j+1,by simpa using hj,by simp only [cond_false,h1];congr 1;omega,by simpa using h2,by simpa using h3⟩
theorem fv (p:α→Bool) (x:List α):(zH p x 0=-1∧x.find? p=none)∨∃ j,∃ h:j < x.length,zH p x 0=(j:Int)∧x.find? p=some x[j]∧p x[j]=true:=by
 rcases RF (p:=p) x 0 with h | ⟨j,hj,h1,h2⟩
 ·exact .inl h
 ·exact .inr ⟨j,hj,by simpa using h1,h2⟩
end
section
variable {α R:Type} {x:List α} {B:Nat}
theorem GQ {p:α→Bool} {l:Nat→Int→R} {E:R} {O:α→R} (he:∀ k,l (k+1) (x.length:Int)=E)
  (h:∀ k i (hi:i < x.length),B≤k→l (k+1) (i:Int)=cond (p x[i]) (O x[i]) (l k ((i+1:Nat):Int))) (k:Nat) (hk:B+x.length+1≤k):l k 0=(match x.find? p with | some a=>O a | none=>E):=by
 have go:∀ m i k,i+m=x.length→B+m+1≤k→l k (i:Int)=(match (x.drop i).find? p with | some a=>O a | none=>E):=by
  intro m
  induction m with
  | zero=>
   intro i k h1 h2
   obtain rfl:i=x.length:=by omega
   obtain ⟨k,rfl⟩:∃ j,k=j+1:=⟨k-1,by omega⟩
   simp [he]
  | succ m ih=>
   intro i k h1 h2
   obtain ⟨k,rfl⟩:∃ j,k=j+1:=⟨k-1,by omega⟩
   have hi:i < x.length:=by omega
   rw [h k i hi (by omega),List.drop_eq_getElem_cons hi,List.find?_cons]
   cases p x[i] with
   | true=>rfl
   | false=>exact ih (i+1) k (by omega) (by omega)
 have:=go x.length 0 k (by omega) (by omega)
 simpa using this
end
section
variable {α β R:Type} {x:List α} {B:Nat}
def first (g:Nat→α→Option β):List α→Nat→Option β
 | [],_=>none
 | a::r,i=>match g i a with
  | some c=>some c
  | none=>first g r (i+1)
theorem I7 {g:Nat→α→Option β} {l:Nat→Int→R} {E:R} {O:β→R} (he:∀ k,l (k+1) (x.length:Int)=E)
  (h:∀ k i (hi:i < x.length),B≤k→l (k+1) (i:Int)=(match g i x[i] with | some c=>O c | none=>l k ((i+1:Nat):Int))) (k:Nat) (hk:B+x.length+1≤k):l k 0=(match first g x 0 with | some c=>O c | none=>E):=by
 have go:∀ m i k,i+m=x.length→B+m+1≤k→l k (i:Int)=(match first g (x.drop i) i with | some c=>O c | none=>E):=by
  intro m
  induction m with
  | zero=>
   intro i k h1 h2
   obtain rfl:i=x.length:=by omega
   obtain ⟨k,rfl⟩:∃ j,k=j+1:=⟨k-1,by omega⟩
   simp [he,first]
  | succ m ih=>
   intro i k h1 h2
   obtain ⟨k,rfl⟩:∃ j,k=j+1:=⟨k-1,by omega⟩
   have hi:i < x.length:=by omega
   rw [h k i hi (by omega),List.drop_eq_getElem_cons hi]
   simp only [first]
   cases g i x[i] with
   | some c=>rfl
   | none=>exact ih (i+1) k (by omega) (by omega)
 have:=go x.length 0 k (by omega) (by omega)
 simpa using this
theorem RG {g g':Nat→α→Option β}:∀ (y:List α) (i:Nat),(∀ j a,y[j]?=some a→g (i+j) a=g' (i+j) a)→first g y i=first g' y i
 | [],_,_=>rfl
 | a::r,i,h=>by
  simp only [first]
  have h0:=h 0 a rfl
  rw [Nat.add_zero] at h0
  have hr:=RG (g:=g) (g':=g') r (i+1) fun j b hb=>by have:=h (j+1) b (by simpa using hb);rwa [show i+(j+1)=i+1+j by omega] at this
  rw [h0,hr]
end
theorem Od:∀ a:List UInt8,slt a a=false
 | []=>rfl
 | a::r=>by
  have:=Od r
  simp only [slt,Op.bytesLess] at *
  simp [this]
theorem S5:∀ {a b c:List UInt8},slt a b=true→slt b c=true→slt a c=true
 | [],b,c,h1,h2=>by
  cases c with
  | nil=>cases b<;>simp [slt,Op.bytesLess] at h2
  | cons=>rfl
 | a::r,b,c,h1,h2=>by
  cases b with
  | nil=>simp [slt,Op.bytesLess] at h1
  | cons b s=>
   cases c with
   | nil=>simp [slt,Op.bytesLess] at h2
   | cons c t=>
    have ih:=@S5 r s t
    simp only [slt,Op.bytesLess,Bool.or_eq_true,Bool.and_eq_true,decide_eq_true_eq,beq_iff_eq] at *
    rcases h1 with h1 | ⟨rfl,h1⟩
    ·rcases h2 with h2 | ⟨rfl,h2⟩
     ·exact .inl (UInt8.lt_trans h1 h2)
     ·exact .inl h1
    ·rcases h2 with h2 | ⟨rfl,h2⟩
     ·exact .inl h2
     ·exact .inr ⟨rfl,ih h1 h2⟩
theorem L9:∀ {xs:List (List UInt8)} {q:Option (List UInt8)},chain Cj q xs=true→xs.Nodup∧∀ p,q=some p→∀ y,y∈xs→slt p y=true
 | [],_,_=>⟨List.nodup_nil,fun _ _ _ h=>by cases h⟩
 | a::r,q,h=>by
  simp only [chain,Cj,Bool.and_eq_true] at h
  obtain ⟨⟨-,h1⟩,h2⟩:=h
  obtain ⟨h3,h4⟩:=L9 h2
  refine ⟨List.nodup_cons.2 ⟨fun hm=>?_,h3⟩,fun p hp y hy=>?_⟩
  ·have:=h4 a rfl a hm
   rw [Od] at this;cases this
  ·subst hp
   rcases List.mem_cons.1 hy with e | e
   ·exact e▸h1
   ·exact S5 h1 (h4 a rfl y e)
theorem RH {xs:List (List UInt8)} (h:qQ xs=true):xs.Nodup:=(L9 h).1
theorem s6 {a b:Int} (h:ck a b=true):a≤b:=by simpa [ck] using h
def jz (x:List aJ) (n:Nm):Option aJ:=x.find? fun t=>seq t.Name n
def A2 (x:List aJ) (n:Nm):Nm:=match jz x n with
 | some t=>t.g9
 | none=>[]
def upN (x:List aJ):Nat→Nm→Nm
 | 0,a=>a
 | m+1,a=>cond (seq a []) [] (upN x m (A2 x a))
theorem aiJ (x:List aJ):∀ m,upN x m []=[]
 | 0=>rfl
 | _+1=>rfl
def wk (x:List aJ) (m:Nat) (a:Nm):Bool:=seq (upN x m a) []
def known (x:List aJ) (n:Nm):Bool:=seq n []||(jz x n).isSome
def xT (x:List aJ) (q:Option aJ) (t:aJ):Bool:=Cj (q.map (·.Name)) t.Name&&known x t.g9
def Kv (x:List aJ):Bool:=ck (x.length:Int) 12&&(chain (xT x) none x&&x.all fun t=>wk x 4 t.g9)
theorem O7 {k:Nat} {x:List aJ} {n:Nm} (hk:4194304≤k) (hx:x.length≤1048576):nM k x n=some (jz x n).isSome:=by
 unfold nM
 simp only [share]
 have h:=GQ (R:=Option Bool) (x:=x) (p:=fun t=>seq t.Name n) (B:=0) (l:=fun k i=>iter (ts:=AF) (R:=Bool) k (sv (some false)) x n i) (E:=some false) (O:=fun _=>some true)
  (fun k=>by simp only [iter,sv,cf,cond_false]<;>rfl)
  (fun k i hi _=>by simp only [iter,sv,b6 hi,bF hi,cond_true,bK,bR hi,bH hx hi]<;>rfl) k (by omega)
 refine h.trans ?_
 unfold jz
 cases x.find? fun t=>seq t.Name n<;>rfl
theorem UW {k:Nat} {x:List aJ} {n:Nm} (hk:4194304≤k) (hx:x.length≤1048576):v7 k x n=some (A2 x n):=by
 unfold v7
 simp only [share]
 have h:=GQ (R:=Option (List UInt8)) (x:=x) (p:=fun t=>seq t.Name n) (B:=0) (l:=fun k i=>iter (ts:=AG) (R:=List UInt8) k (sw (some [])) x n i) (E:=some []) (O:=fun t=>some t.g9)
  (fun k=>by simp only [iter,sw,cf,cond_false]<;>rfl)
  (fun k i hi _=>by simp only [iter,sw,b6 hi,bF hi,cond_true,bK,bR hi,bH hx hi]<;>rfl) k (by omega)
 refine h.trans ?_
 unfold A2 jz
 cases x.find? fun t=>seq t.Name n<;>rfl
theorem adv {x:List aJ} {J:List aJ→Int→Nm→Option Bool} {i:Int} (hx:x.length≤1048576):∀ (m j k:Nat) (a:Nm),j+m=5→4194304+m+1≤k→
  iter (ts:=rn) (R:=Bool) k (jq J) x i a (j:Int)=J x i (upN x m a):=by
 intro m
 induction m with
 | zero=>
  intro j k a h hk
  obtain rfl:j=5:=by omega
  obtain ⟨k,rfl⟩:∃ q,k=q+1:=⟨k-1,by omega⟩
  simp only [iter,jq,UU (show ¬ ((5:Nat):Int)≤(4:Int) by omega),cond_false]<;>rfl
 | succ m ih=>
  intro j k a h hk
  obtain ⟨k,rfl⟩:∃ q,k=q+1:=⟨k-1,by omega⟩
  simp only [iter,jq,Iv (show ((j:Nat):Int)≤4 by omega),cond_true,upN,UW (show 4194304≤k by omega) hx,Option.bind_some]
  cases h1:seq a [] with
  | true=>rw [ee.1 h1];rfl
  | false=>
   simp only [Bool.not_false,cond_true,cond_false,bH (n:=5) (by omega) (show j < 5 by omega)]
   exact ih (j+1) k _ (by omega) (by omega)
theorem O8 {k:Nat} {x:List aJ} (hk:4194304*3≤k) (hx:gW aJ.sd x):kR k x=some (ck (x.length:Int) 12&&(chain (xT x) none x&&x.all fun t=>wk x 5 t.Name)):=by
 unfold kR
 have h:=fq (R:=Option Bool) (x:=x) (p:=fun o t=>xT x o t&&wk x 5 t.Name) (B:=4194304*2) (l:=fun k i=>iter (ts:=eD) (R:=Bool) k (dJ (some true)) x i) (E:=some true) (O:=some false)
  (fun k=>by simp only [iter,dJ,cf,cond_false]<;>rfl)
  (fun k i hi hb=>by
   have hti:=hx.2 _ (dG hi)
   simp only [iter,dJ,share,b6 hi,bF hi,cond_true,bK,bR hi,eL (show 4194304≤k by omega) hti.1,O7 (show 4194304≤k by omega) hx.1,Option.bind_some,xT,Cj,known]
   have up:=adv (J:=fun aiU aiV aiW=>cond (!seq aiW ([]:List UInt8)) (some false) (iter (ts:=eD) (R:=Bool) k (dJ (some true)) aiU (aQ .i64 aiV (1:Int)))) (i:=(i:Int)) hx.1 5 0 k x[i].Name (by omega) (by omega)
   rw [bH hx.1 hi] at up
   have up':=up.trans (show cond (!wk x 5 x[i].Name) (some false) (iter (ts:=eD) (R:=Bool) k (dJ (some true)) x ((i+1:Nat):Int))=cond (wk x 5 x[i].Name) (iter (ts:=eD) (R:=Bool) k (dJ (some true)) x ((i+1:Nat):Int)) (some false) by cases wk x 5 x[i].Name<;>rfl)
   cases cH x[i].Name with
   | false=>rfl
   | true=>
    rcases Nat.eq_zero_or_pos i with rfl | h0
    ·simp only [sZ,l9]
     cases seq x[0].g9 [] with
     | true=>exact up'
     | false=>
      cases (jz x x[0].g9).isSome with
      | false=>rfl
      | true=>exact up'
    ·have c9:i-1 < x.length:=by omega
     simp only [A1 h0,qP h0 (by have:=hx.1;omega),bF c9,cond_true,bK,bR c9,l_ h0 hi,Option.map_some]
     cases slt x[i-1].Name x[i].Name with
     | false=>rfl
     | true=>
      cases seq x[i].g9 [] with
      | true=>exact up'
      | false=>
       cases (jz x x[i].g9).isSome with
       | false=>rfl
       | true=>exact up') k (by have:=hx.1;omega)
 rw [ym,yn] at h
 simp only [share,cO]
 cases ck (x.length:Int) 12 with
 | false=>rfl
 | true=>exact h.trans (by cases chain (xT x) none x&&x.all fun t=>wk x 5 t.Name<;>rfl)
theorem W4 {x:List aJ} {o:Option aJ} {y:List aJ}:chain (xT x) o y=(chain Cj (o.map (·.Name)) (y.map (·.Name))&&y.all fun t=>known x t.g9):=by
 unfold xT
 rw [ym,yn,L5]
theorem Z3 {x:List aJ} (h:chain (xT x) none x=true) {t:aJ} (ht:t∈x):jz x t.Name=some t:=by
 rw [W4] at h
 have Ck:=(L9 (Bool.and_eq_true_iff.1 h).1).1
 clear h
 unfold jz
 induction x with
 | nil=>cases ht
 | cons a r ih=>
  simp only [List.map_cons,List.nodup_cons] at Ck
  rw [List.find?_cons]
  rcases List.mem_cons.1 ht with e | e
  ·subst e
   rw [show seq t.Name t.Name=true from ee.2 rfl]
  ·cases ha:seq a.Name t.Name with
   | true=>
    have hm:t.Name∈r.map (·.Name):=List.mem_map_of_mem e
    rw [← ee.1 ha] at hm
    exact absurd hm Ck.1
   | false=>exact ih e Ck.2
theorem O9 {x:List aJ}:∀ {y:List aJ} {o:Option aJ},chain (xT x) o y=true→∀ t,t∈y→cH t.Name=true∧known x t.g9=true
 | [],_,_,_,h=>by cases h
 | a::r,o,h,t,ht=>by
  simp only [chain,Bool.and_eq_true] at h
  rcases List.mem_cons.1 ht with e | e
  ·subst e
   simp only [xT,Cj,Bool.and_eq_true] at h
   exact ⟨h.1.1.1,h.1.2⟩
  ·exact O9 h.2 t e
theorem W5 (x:List aJ):(chain (xT x) none x&&x.all fun t=>wk x 5 t.Name)=(chain (xT x) none x&&x.all fun t=>wk x 4 t.g9):=by
 cases h:chain (xT x) none x with
 | false=>rfl
 | true=>
  rw [Bool.true_and,Bool.true_and]
  rw [Bool.eq_iff_iff,List.all_eq_true,List.all_eq_true]
  have key:∀ t,t∈x→wk x 5 t.Name=wk x 4 t.g9:=fun t ht=>by
   unfold wk
   have pw:seq t.Name []=false:=by
    cases e:seq t.Name [] with
    | false=>rfl
    | true=>have:=RD e;rw [(O9 h t ht).1] at this;cases this
   rw [upN,pw,cond_false,A2,Z3 h ht]
  exact ⟨fun h t ht=>by rw [← key t ht];exact h t ht,fun h t ht=>by rw [key t ht];exact h t ht⟩
theorem Q8 {k:Nat} {x:List aJ} (hk:4194304*3≤k) (hx:gW aJ.sd x):kR k x=some (Kv x):=by
 rw [O8 hk hx,W5];rfl
theorem Cl {k:Nat} {x:List aJ} {n:Nm} (hk:4194304≤k) (hx:x.length≤1048576):iZ k x n=some (zH (fun t=>seq t.Name n) x 0):=by
 unfold iZ
 simp only [share]
 exact rD (x:=x) (p:=fun t=>seq t.Name n) (l:=fun k i=>iter (ts:=AN) (R:=Int) k (sL (some (-1))) n x (x.length:Int) i)
  (fun k=>by simp only [iter,sL,cf,cond_false]<;>rfl)
  (fun k i hi=>by simp only [iter,sL,b6 hi,bF hi,cond_true,bK,bR hi,bH hx hi]<;>rfl) k (by omega)
theorem adw {x:List aJ} {J:List aJ→List aJ→Int→Int→Option Bool} {c d:Int} (hx:x.length≤1048576) (hkn:∀ t,t∈x→known x t.g9=true):∀ (m j k:Nat) (a:Nm),j+m=4→4194304+m+1≤k→known x a=true→
  iter (ts:=rA) (R:=Bool) k (jv J) x (j:Int) a x c d=cond (wk x m a) (J x x c d) (some false):=by
 intro m
 induction m with
 | zero=>
  intro j k a h hk ha
  obtain rfl:j=4:=by omega
  obtain ⟨k,rfl⟩:∃ q,k=q+1:=⟨k-1,by omega⟩
  simp only [iter,jv,wk,upN,show bO 4 (aQ .i64 ((4:Nat):Int) 1)=true from rfl,cond_true]
  cases seq a []<;>rfl
 | succ m ih=>
  intro j k a h hk ha
  obtain ⟨k,rfl⟩:∃ q,k=q+1:=⟨k-1,by omega⟩
  simp only [iter,jv,wk,upN,bH (n:=4) (by omega) (show j < 4 by omega),eh (show ¬ (4:Int) < ((j+1:Nat):Int) by omega),cond_false,Cl (show 4194304≤k by omega) hx,Option.bind_some]
  cases h1:seq a [] with
  | true=>rfl
  | false=>
   simp only [known,h1,Bool.false_or,jz] at ha
   rcases fv (fun t:aJ=>seq t.Name a) x with ⟨k1,k2⟩ | ⟨q,hq,k1,k2,_⟩
   ·rw [k2] at ha;cases ha
   ·rw [k1,bF hq,bR hq]
    simp only [Bool.not_false,cond_true,cond_false,bK,A2,jz,k2]
    exact ih (j+1) k _ (by omega) (by omega) (hkn _ (dG hq))
theorem Q9 {k:Nat} {x:List aJ} (hk:4194304*3≤k) (hx:gW aJ.sd x):oJ k x=some (Kv x):=by
 unfold oJ Kv
 have h4:=fun J:List aJ→Option Bool=>fq (R:=Option Bool) (x:=x) (p:=xT x) (B:=4194304*2) (l:=fun k i=>iter (ts:=sM) (R:=Bool) k (kj J) x x (x.length:Int) i) (E:=J x) (O:=some false)
  (fun k=>by simp only [iter,kj,cf,cond_false]<;>rfl)
  (fun k i hi hb=>by
   have hti:=hx.2 _ (dG hi)
   simp only [iter,kj,share,b6 hi,bF hi,cond_true,bK,bR hi,gG (show 4194304≤k by omega) hti.1,Cl (show 4194304≤k by omega) hx.1,Option.bind_some,xT,Cj,known,jz]
   rw [bH hx.1 hi]
   have ep:bO (zH (fun t:aJ=>seq t.Name x[i].g9) x 0) 0=!(x.find? fun t=>seq t.Name x[i].g9).isSome:=by
    rcases fv (fun t:aJ=>seq t.Name x[i].g9) x with ⟨k1,k2⟩ | ⟨q,hq,k1,k2,_⟩
    ·rw [k1,k2];rfl
    ·rw [k1,k2,eh (by omega)];rfl
   rw [ep]
   cases cH x[i].Name with
   | false=>rfl
   | true=>
    rcases Nat.eq_zero_or_pos i with rfl | h0
    ·simp only [sZ,l9]
     cases seq x[0].g9 []<;>cases (x.find? fun t=>seq t.Name x[0].g9).isSome<;>rfl
    ·have c9:i-1 < x.length:=by omega
     simp only [A1 h0,qP h0 (by have:=hx.1;omega),bF c9,cond_true,bK,bR c9,l_ h0 hi,Option.map_some]
     cases slt x[i-1].Name x[i].Name<;>cases seq x[i].g9 []<;>cases (x.find? fun t=>seq t.Name x[i].g9).isSome<;>rfl) k (by have:=hx.1;omega)
 simp only [share,cO]
 cases ck (x.length:Int) 12 with
 | false=>rfl
 | true=>
  refine (h4 _).trans ?_
  cases hc:chain (xT x) none x with
  | false=>rfl
  | true=>
   have hkn:∀ t,t∈x→known x t.g9=true:=fun t ht=>(O9 hc t ht).2
   have h10:=gF (R:=Option Bool) (x:=x) (p:=fun t=>wk x 4 t.g9) (B:=4194304*2) (l:=fun k i=>iter (ts:=rB) (R:=Bool) k (jw (some true)) x x (x.length:Int) i) (E:=some true) (O:=some false)
    (fun k=>by simp only [iter,jw,cf,cond_false]<;>rfl)
    (fun k i hi hb=>by
     simp only [iter,jw,share,b6 hi,bF hi,cond_true,bK,bR hi]
     refine (adw hx.1 hkn 4 0 k _ (by omega) (by omega) (hkn _ (dG hi))).trans ?_
     rw [bH hx.1 hi]) k (by have:=hx.1;omega)
   exact h10.trans (by cases x.all fun t=>wk x 4 t.g9<;>rfl)
theorem ajX (c x:Bool):cond c (some x) (some false)=some (c&&x):=by cases c<;>rfl
def Iw (o:Option Int) (v:Int):Bool:=(ck 1 v&&ck v 5)&&(match o with | none=>true | some p=>bO p v)
def C8 (n:Nm):Bool:=seq n []||cH n
def Bq (r:bD):Bool:=!bL (r.cB.length:Int) 0&&(ck (r.cT.length:Int) 16&&(C8 r.Kind&&(C8 r.aZ&&(chain Iw none r.cB&&r.cT.all nb))))
theorem S6 {k:Nat} {r:bD} (hk:4194304*2≤k) (hr:r.sd):jJ k r=some (Bq r):=by
 obtain ⟨h1,h2,h3,h4⟩:=hr
 unfold jJ
 have h9:=gF (R:=Option Bool) (x:=r.cT) (p:=nb) (B:=0) (l:=fun k i=>iter (ts:=po) (R:=Bool) k (kS (some true)) r i) (E:=some true) (O:=some false)
  (fun k=>by simp only [iter,kS,cf,cond_false]<;>rfl)
  (fun k i hi _=>by
   simp only [iter,kS,b6 hi,bF hi,cond_true,bK,zG hi,UT,Option.bind_some,bH h4 hi]
   cases nb r.cT[i]<;>rfl) k (by simp only [dq] at h4;omega)
 have h5:=fun J:bD→Option Bool=>fq (R:=Option Bool) (x:=r.cB) (p:=Iw) (B:=0) (l:=fun k i=>iter (ts:=pq) (R:=Bool) k (kT J) r i) (E:=J r) (O:=some false)
  (fun k=>by simp only [iter,kT,cf,cond_false]<;>rfl)
  (fun k i hi _=>by
   simp only [iter,kT,share,b6 hi,bF hi,cond_true,bK,bR hi,OZ,Option.bind_some,bH h1.1 hi,Iw]
   rcases Nat.eq_zero_or_pos i with rfl | h0
   ·simp only [sZ,l9]
    cases ck 1 r.cB[0]&&ck r.cB[0] 5<;>rfl
   ·have c9:i-1 < r.cB.length:=by omega
    simp only [A1 h0,qP h0 (by have:=h1.1;omega),bF c9,cond_true,bK,bR c9,l_ h0 hi,cO]
    cases ck 1 r.cB[i]&&ck r.cB[i] 5<;>cases ck r.cB[i] r.cB[i-1]<;>rfl) k (by have:=h1.1;omega)
 have go:cond false (some false) (iter (ts:=pq) (R:=Bool) k (kT fun v38=>iter (ts:=po) (R:=Bool) k (kS (some true)) v38 (0:Int)) r (0:Int))=some (chain Iw none r.cB&&r.cT.all nb):=by
  refine (h5 _).trans ?_
  cases chain Iw none r.cB with
  | false=>rfl
  | true=>exact h9.trans (by cases r.cT.all nb<;>rfl)
 simp only [share,eL (show 4194304≤k by omega) h2,eL (show 4194304≤k by omega) h3,Option.bind_some,Bq,C8,cO]
 cases bL (r.cB.length:Int) 0 with
 | true=>rfl
 | false=>
  cases ck (r.cT.length:Int) 16 with
  | false=>rfl
  | true=>
   cases seq r.Kind []<;>cases cH r.Kind<;>cases seq r.aZ []<;>cases cH r.aZ<;>first | rfl | exact go
theorem S7 {k:Nat} {r:bD} (hk:4194304*2≤k) (hr:r.sd):fh k r=some (Bq r):=by
 obtain ⟨h1,h2,h3,h4⟩:=hr
 unfold fh
 have h5:=fq (R:=Option Bool) (x:=r.cB) (p:=Iw) (B:=0) (l:=fun k i=>iter (ts:=lu) (R:=Bool) k (gz (some true)) r r.cB (r.cB.length:Int) i) (E:=some true) (O:=some false)
  (fun k=>by simp only [iter,gz,cf,cond_false]<;>rfl)
  (fun k i hi _=>by
   simp only [iter,gz,share,b6 hi,bF hi,cond_true,bK,bR hi,Option.bind_some,bH h1.1 hi,Iw]
   rcases Nat.eq_zero_or_pos i with rfl | h0
   ·simp only [sZ,l9]
    rw [cO r.cB[0],cO 5]
    cases ck 1 r.cB[0]<;>cases ck r.cB[0] 5<;>rfl
   ·have c9:i-1 < r.cB.length:=by omega
    simp only [A1 h0,qP h0 (by have:=h1.1;omega),bF c9,cond_true,bK,bR c9,l_ h0 hi]
    rw [cO r.cB[i],cO 5,cO r.cB[i-1]]
    cases ck 1 r.cB[i]<;>cases ck r.cB[i] 5<;>cases ck r.cB[i] r.cB[i-1]<;>rfl) k (by have:=h1.1;omega)
 have go:iter (ts:=lu) (R:=Bool) k (gz (some true)) r r.cB (r.cB.length:Int) (0:Int)=some (chain Iw none r.cB):=h5.trans (by cases chain Iw none r.cB<;>rfl)
 simp only [share,gG (show 4194304≤k by omega) h2,gG (show 4194304≤k by omega) h3,Na (show 4194304≤k by omega) h4,Option.bind_some,Bq,C8,cO]
 cases bL (r.cB.length:Int) 0 with
 | true=>rfl
 | false=>
  cases ck (r.cT.length:Int) 16<;>cases seq r.Kind []<;>cases cH r.Kind<;>cases seq r.aZ []<;>cases cH r.aZ<;>cases r.cT.all nb<;>first | rfl | (refine Eq.trans ?_ (show some (chain Iw none r.cB&&false)=_ from rfl);rw [Bool.and_false];rfl) | (refine Eq.trans go ?_;simp)
def val:List UInt8→Int→Option Int
 | [],a=>some a
 | c::r,a=>if 48≤bt c∧bt c≤57 then val r (a*10+(bt c-48)) else none
theorem O_:∀ {s:List UInt8} {a v:Int},0≤a→val s a=some v→0≤v
 | [],a,v,h,e=>by simp only [val] at e;cases e;exact h
 | c::r,a,v,h,e=>by
  simp only [val] at e
  split at e
  ·exact O_ (by omega) e
  ·cases e
theorem abq:∀ {s:List UInt8} {a v:Int},0≤a→val s a=some v→v < (a+1)*10 ^ s.length
 | [],a,v,h,e=>by simp only [val] at e;cases e;simp only [List.length_nil,Int.pow_zero];omega
 | c::r,a,v,h,e=>by
  simp only [val] at e
  split at e
  ·have:=abq (by omega) e
   refine Int.lt_of_lt_of_le this ?_
   rw [List.length_cons,Int.pow_succ,Int.mul_comm (10 ^ r.length) 10,← Int.mul_assoc]
   exact Int.mul_le_mul_of_nonneg_right (by omega) (Int.pow_nonneg (by omega))
  ·cases e
def num (s:List UInt8):Option Int:=if 1≤s.length∧s.length≤7∧(1 < s.length→bt (s.getD 0 0)≠48) then val s 0 else none
theorem GR {s:List UInt8} {v:Int} (h:num s=some v):0≤v∧v < 10000000:=by
 unfold num at h
 split at h
 ·rename_i hc
  have h1:=O_ (by omega) h
  have h2:=abq (by omega) h
  have h3:(10:Int) ^ s.length≤10 ^ 7:=by
   have:(10:Nat) ^ s.length≤10 ^ 7:=Nat.pow_le_pow_right (by omega) hc.2.1
   exact_mod_cast this
  omega
 ·cases h
def vOr {R:Type} (J:Int→Option R) (r:R):Option Int→Option R
 | some v=>J v
 | none=>some r
theorem UX {s:List UInt8} {i:Nat} {a:Int} (hi:i < s.length):val (s.drop i) a=if 48≤bt s[i]∧bt s[i]≤57 then val (s.drop (i+1)) (a*10+(bt s[i]-48)) else none:=by
 rw [List.drop_eq_getElem_cons hi];rfl
theorem Pa {s:List UInt8} {J:Int→Option Int}:∀ (m i k:Nat) (a:Int),i+m=s.length→m < k→s.length≤7→0≤a→a < 10 ^ i→
  iter (ts:=xC) (R:=Int) k (oy J) s a (i:Int)=vOr J (-1) (val (s.drop i) a)
 | _,_,0,_,_,h,_,_,_=>by omega
 | 0,i,k+1,a,h,_,h7,h0,ha=>by
  obtain rfl:i=s.length:=by omega
  simp only [iter,oy,cf,cond_false,List.drop_length,val,vOr]<;>rfl
 | m+1,i,k+1,a,h,hk,h7,h0,ha=>by
  have hi:i < s.length:=by omega
  have hr:=OY s[i]
  simp only [iter,oy,share,b6 hi,bF hi,cond_true,bK,zG hi]
  rw [UX hi]
  by_cases c1:bt s[i] < 48
  ·rw [mB c1,if_neg (by omega)];rfl
  ·by_cases c2:57 < bt s[i]
   ·rw [eh c1,mB c2,if_neg (by omega)];rfl
   ·rw [eh c1,eh c2,if_pos (by omega)]
    have aiX:(10:Int) ^ i≤10 ^ 7:=by
     have:(10:Nat) ^ i≤10 ^ 7:=Nat.pow_le_pow_right (by omega) (by omega)
     exact_mod_cast this
    have e1:ZX .i64 a 10=a*10:=vm (by omega) (by omega)
    have e2:Ao .i64 (bt s[i])=bt s[i]:=vm (by omega) (by omega)
    simp only [cond_false,e1,e2]
    rw [sY (by omega) (by omega),YB (by omega) (by omega),bH (n:=s.length) (by omega) hi,show a*10+bt s[i]-48=a*10+(bt s[i]-48) by omega]
    exact Pa m (i+1) k _ (by omega) (by omega) h7 (by omega) (by rw [Int.pow_succ];omega)
theorem RI {s:List UInt8} {J:Int→Option (Int×Bool)}:∀ (m i k:Nat) (a:Int),i+m=s.length→m < k→s.length≤7→0≤a→a < 10 ^ i→
  iter (ts:=zb) (R:=Int×Bool) k (qn J) s a (s.length:Int) (i:Int)=vOr J (0,false) (val (s.drop i) a)
 | _,_,0,_,_,h,_,_,_=>by omega
 | 0,i,k+1,a,h,_,h7,h0,ha=>by
  obtain rfl:i=s.length:=by omega
  simp only [iter,qn,cf,cond_false,List.drop_length,val,vOr]<;>rfl
 | m+1,i,k+1,a,h,hk,h7,h0,ha=>by
  have hi:i < s.length:=by omega
  have hr:=OY s[i]
  simp only [iter,qn,share,b6 hi,bF hi,cond_true,bK,zG hi]
  rw [UX hi]
  by_cases c1:bt s[i] < 48
  ·rw [mB c1,if_neg (by omega)];rfl
  ·by_cases c2:57 < bt s[i]
   ·rw [eh c1,mB c2,if_neg (by omega)];rfl
   ·rw [eh c1,eh c2,if_pos (by omega)]
    have aiX:(10:Int) ^ i≤10 ^ 7:=by
     have:(10:Nat) ^ i≤10 ^ 7:=Nat.pow_le_pow_right (by omega) (by omega)
     exact_mod_cast this
    have e1:ZX .i64 a 10=a*10:=vm (by omega) (by omega)
    have e0:bW .u8 (bt s[i]) 48=bt s[i]-48:=wrap_u8 (by omega) (by omega)
    have e2:Ao .i64 (bt s[i]-48)=bt s[i]-48:=vm (by omega) (by omega)
    simp only [cond_false,e0,e1,e2]
    rw [sY (by omega) (by omega),bH (n:=s.length) (by omega) hi]
    exact RI m (i+1) k _ (by omega) (by omega) h7 (by omega) (by rw [Int.pow_succ];omega)
theorem Pb {k:Nat} (s:List UInt8) (hk:4194304≤k):pN k s=some ((num s).getD (-1)):=by
 unfold pN
 simp only [share,OZ,Option.bind_some]
 by_cases h1:1≤s.length
 ·by_cases h7:s.length≤7
  ·have loop:=Pa (s:=s) (J:=fun v=>some v) s.length 0 k 0 (by omega) (by omega) h7 (by omega) (by decide)
   rw [List.drop_zero,Int.natCast_zero] at loop
   rw [Iv (by omega),Iv (by omega)]
   simp only [Bool.and_true,Bool.not_true,cond_false,loop]
   by_cases h2:1 < s.length
   ·rw [mB (by omega),Kt (by omega) (by omega)]
    have e0:BK s 0=bt (s.getD 0 0):=rfl
    simp only [cond_true,bK,e0]
    by_cases h3:bt (s.getD 0 0)=48
    ·rw [h3,num,if_neg (fun h=>h.2.2 h2 h3)];rfl
    ·rw [show bL (bt (s.getD 0 0)) 48=false by simpa [bL] using h3,num,if_pos ⟨h1,h7,fun _=>h3⟩]
     cases val s 0<;>rfl
   ·rw [eh (by omega),num,if_pos ⟨h1,h7,fun h=>absurd h h2⟩]
    cases val s 0<;>rfl
  ·rw [Iv (by omega),UU (by omega),num,if_neg (by omega)];rfl
 ·rw [UU (by omega),num,if_neg (by omega)];rfl
theorem RJ {k:Nat} (s:List UInt8) (hk:4194304≤k):rM k s=some (match num s with | some v=>(v,true) | none=>(0,false)):=by
 unfold rM
 simp only [share]
 by_cases h1:s.length < 1
 ·rw [mB (by omega),num,if_neg (by omega)];rfl
 ·rw [eh (by omega)]
  by_cases h7:7 < s.length
  ·rw [mB (by omega),num,if_neg (by omega)];rfl
  ·have loop:=RI (s:=s) (J:=fun v=>some (v,true)) s.length 0 k 0 (by omega) (by omega) (by omega) (by omega) (by decide)
   rw [List.drop_zero,Int.natCast_zero] at loop
   have e0:BK s 0=bt (s.getD 0 0):=rfl
   rw [eh (by omega),Kt (by omega) (by omega)]
   simp only [cond_false,bK,e0,loop]
   by_cases h3:bt (s.getD 0 0)=48
   ·rw [show bL (bt (s.getD 0 0)) 48=true by simpa [bL] using h3]
    by_cases h2:1 < s.length
    ·rw [mB (by omega),num,if_neg (fun h=>h.2.2 h2 h3)];rfl
    ·rw [eh (by omega),num,if_pos ⟨by omega,by omega,fun h=>absurd h h2⟩]
     cases val s 0<;>rfl
   ·rw [show bL (bt (s.getD 0 0)) 48=false by simpa [bL] using h3,num,if_pos ⟨by omega,by omega,fun _=>h3⟩]
    cases val s 0<;>rfl
theorem Oe {k:Nat} {xs:List (List UInt8)} {s:List UInt8} (hk:4194304≤k) (hx:xs.length≤1048576):lN k xs s=some (xs.any fun y=>seq y s):=by
 unfold lN
 have h:=zF (x:=xs) (p:=fun y=>seq y s) (B:=0) (l:=fun k i=>iter (ts:=BL) (R:=Bool) k (uY (some false)) xs s i) (E:=some false) (O:=some true)
  (fun k=>by simp only [iter,uY,cf,cond_false]<;>rfl)
  (fun k i hi _=>by simp only [iter,uY,b6 hi,bF hi,cond_true,bK,bR hi,bH hx hi]<;>rfl) k (by omega)
 simp only [share]
 exact h.trans (by cases xs.any fun y=>seq y s<;>rfl)
theorem A3 {k:Nat} {f:aB} {s:List UInt8} (hk:4194304≤k) (hx:f.Words.length≤1048576):kh k ⟨f⟩ s=some (f.Words.any fun y=>seq y s):=by
 unfold kh
 have h:=zF (x:=f.Words) (p:=fun y=>seq y s) (B:=0) (l:=fun k i=>iter (ts:=o_) (R:=Bool) k (gU (some false)) s f.Words (f.Words.length:Int) i) (E:=some false) (O:=some true)
  (fun k=>by simp only [iter,gU,cf,cond_false]<;>rfl)
  (fun k i hi _=>by simp only [iter,gU,b6 hi,bF hi,cond_true,bK,bR hi,bH hx hi]<;>rfl) k (by omega)
 simp only [share]
 exact h.trans (by cases f.Words.any fun y=>seq y s<;>rfl)
def seen (c:UInt8):Bool:=ck 33 (bt c)&&ck (bt c) 126
def S8 (f:aB) (s:List UInt8):Bool:=(ck f.bP (s.length:Int)&&ck (s.length:Int) f.b7)&&s.all seen
theorem A4 {k:Nat} {f:aB} {s:List UInt8} (hk:4194304≤k) (hs:dq s):kg k ⟨f⟩ s=some (S8 f s):=by
 unfold kg S8
 have h:=gF (x:=s) (p:=seen) (B:=0) (l:=fun k i=>iter (ts:=o9) (R:=Bool) k (gT (some true)) s (s.length:Int) i) (E:=some true) (O:=some false)
  (fun k=>by simp only [iter,gT,cf,cond_false]<;>rfl)
  (fun k i hi _=>by
   simp only [iter,gT,share,b6 hi,bF hi,cond_true,bK,zG hi,bH hs hi,seen,cO (bt s[i]),cO 126]
   cases ck 33 (bt s[i])<;>cases ck (bt s[i]) 126<;>rfl) k (by have:s.length≤1048576:=hs;omega)
 simp only [share,h,cO]
 cases ck f.bP (s.length:Int)<;>cases ck (s.length:Int) f.b7<;>cases s.all seen<;>rfl
def inR (f:aB):Option Int→Bool
 | some v=>ck f.bP v&&ck v f.b7
 | none=>false
def fits (f:aB) (s:List UInt8):Bool:=cond (bL f.Kind 1) (inR f (num s)) (cond (bL f.Kind 2) (!seq s []&&f.Words.any fun y=>seq y s) (cond (bL f.Kind 3) (!seq s []&&S8 f s) (cond (bL f.Kind 4) (cH s) false)))
theorem abr (c:UInt8):Ao .i64 (bt c)=bt c:=by have:=OY c;exact vm (by omega) (by omega)
theorem I8 {k:Nat} {f:aB} {s:List UInt8} (hk:4194304≤k) (hf:f.Words.length≤1048576) (hs:dq s):mG k f s=some (fits f s):=by
 unfold mG fits
 have h:=fun J=>gF (x:=s) (p:=seen) (B:=0) (l:=fun k i=>iter (ts:=xD) (R:=Bool) k (oz J) s f i) (E:=J s f) (O:=some false)
  (fun k=>by simp only [iter,oz,cf,cond_false]<;>rfl)
  (fun k i hi _=>by
   simp only [iter,oz,b6 hi,bF hi,cond_true,bK,zG hi,bH hs hi,OZ,Option.bind_some,abr,seen]
   cases ck 33 (bt s[i])<;>cases ck (bt s[i]) 126<;>rfl) k (by have:s.length≤1048576:=hs;omega)
 simp only [share,h,Pb s hk,Oe hk hf,eL hk hs,OZ,Option.bind_some]
 cases bL f.Kind 1 with
 | true=>
  cases hn:num s with
  | none=>rfl
  | some v=>
   have:=GR hn
   simp only [Option.getD_some,cond_true,Iv this.1,inR]
 | false=>
  cases bL f.Kind 2 with
  | true=>cases seq s []<;>rfl
  | false=>
   cases bL f.Kind 3 with
   | true=>
    simp only [cond_true,cond_false,S8]
    cases s.all seen<;>cases seq s []<;>cases ck f.bP (s.length:Int)<;>cases ck (s.length:Int) f.b7<;>rfl
   | false=>cases bL f.Kind 4<;>rfl
theorem afp {s:List UInt8} (h:seq s []=true):num s=none:=by
 have e:s=[]:=by simpa [seq] using h
 subst e;rfl
theorem vn {k:Nat} {f:aB} {s:List UInt8} (hk:4194304≤k):iE k ⟨f⟩ s=some (inR f (num s)):=by
 unfold iE
 simp only [RJ s hk,Option.bind_some]
 cases num s with
 | none=>rfl
 | some v=>simp only [inR,cond_true];cases ck f.bP v<;>rfl
theorem uG {k:Nat} {f:aB} {s:List UInt8} (hk:4194304≤k) (hf:f.Words.length≤1048576) (hs:dq s):ew k f s=some (fits f s):=by
 unfold ew v_ vj vi vh vg fits pr
 cases bL f.Kind 1 with
 | true=>
  simp only [cond_true,Option.bind_some,zd,vn hk,A3 hk hf,A4 hk hs,gG hk hs]
  cases he:seq s [] with
  | true=>rw [afp he];rfl
  | false=>rfl
 | false=>
  simp only [cond_false]
  cases bL f.Kind 2 with
  | true=>simp only [cond_true,Option.bind_some,zd,vn hk,A3 hk hf,A4 hk hs,gG hk hs];cases seq s []<;>rfl
  | false=>
   simp only [cond_false]
   cases bL f.Kind 3 with
   | true=>simp only [cond_true,Option.bind_some,zd,vn hk,A3 hk hf,A4 hk hs,gG hk hs];cases seq s []<;>rfl
   | false=>
    simp only [cond_false]
    cases bL f.Kind 4 with
    | true=>
     simp only [cond_true,Option.bind_some,zd,vn hk,A3 hk hf,A4 hk hs,gG hk hs]
     cases he:seq s [] with
     | true=>rw [RD he];rfl
     | false=>rfl
    | false=>rfl
theorem Ix {k:Nat} {xs:List (List UInt8)} (hk:8388608≤k) (hx:gW dq xs):kQ k xs=some (qQ xs):=by
 unfold kQ
 have h:=fq (x:=xs) (p:=Cj) (B:=4194304) (l:=fun k i=>iter (ts:=sn) (R:=Bool) k (j9 (some true)) xs i) (E:=some true) (O:=some false)
  (fun k=>by simp only [iter,j9,cf,cond_false]<;>rfl)
  (fun k i hi hb=>by
   simp only [iter,j9,share,b6 hi,bF hi,cond_true,bK,bR hi,eL hb (hx.2 _ (dG hi)),Option.bind_some,bH hx.1 hi]
   rcases Nat.eq_zero_or_pos i with rfl | h0
   ·simp only [sZ,l9,Cj]
    cases cH xs[0]<;>rfl
   ·have c9:i-1 < xs.length:=by omega
    simp only [A1 h0,qP h0 (by have:=hx.1;omega),bF c9,cond_true,bK,bR c9,l_ h0 hi,Cj]
    cases cH xs[i]<;>cases slt xs[i-1] xs[i]<;>rfl) k (by have:=hx.1;omega)
 simp only [share]
 exact h.trans (by unfold qQ;cases chain Cj none xs<;>rfl)
theorem uH {k:Nat} {xs:List (List UInt8)} (hk:8388608≤k) (hx:gW dq xs):eW k xs=some (qQ xs):=by
 unfold eW
 have h:=fq (x:=xs) (p:=Cj) (B:=4194304) (l:=fun k i=>iter (ts:=o8) (R:=Bool) k (gS (some true)) xs xs (xs.length:Int) i) (E:=some true) (O:=some false)
  (fun k=>by simp only [iter,gS,cf,cond_false]<;>rfl)
  (fun k i hi hb=>by
   simp only [iter,gS,share,b6 hi,bF hi,cond_true,bK,bR hi,gG hb (hx.2 _ (dG hi)),Option.bind_some,bH hx.1 hi]
   rcases Nat.eq_zero_or_pos i with rfl | h0
   ·simp only [sZ,l9,Cj]
    cases cH xs[0]<;>rfl
   ·have c9:i-1 < xs.length:=by omega
    simp only [A1 h0,qP h0 (by have:=hx.1;omega),bF c9,cond_true,bK,bR c9,l_ h0 hi,Cj]
    cases cH xs[i]<;>cases slt xs[i-1] xs[i]<;>rfl) k (by have:=hx.1;omega)
 simp only [share]
 exact h.trans (by unfold qQ;cases chain Cj none xs<;>rfl)
def S9 (to:List UInt8):List aC→Nat→Int
 | [],_=>-1
 | s::r,i=>cond (seq s.Kind to) (i:Int) (S9 to r (i+1))
theorem UY (to:List UInt8):∀ (xs:List aC) (i:Nat),ck 0 (S9 to xs i)=xs.any fun s=>seq s.Kind to
 | [],i=>rfl
 | s::r,i=>by
  simp only [S9,List.any_cons]
  cases seq s.Kind to with
  | true=>exact Iv (by simp)
  | false=>exact UY to r (i+1)
theorem RK {xs:List aC} {to:List UInt8} (hx:xs.length≤1048576):∀ m i k:Nat,i+m=xs.length→m < k→
  iter (ts:=yU) (R:=Int) k (qf (some (-1))) xs to (i:Int)=some (S9 to (xs.drop i) i)
 | _,_,0,_,h=>by omega
 | 0,i,k+1,h,_=>by
  obtain rfl:i=xs.length:=by omega
  simp only [iter,qf,cf,cond_false,List.drop_length,S9]<;>rfl
 | m+1,i,k+1,h,hk=>by
  have hi:i < xs.length:=by omega
  have ih:=RK (to:=to) hx m (i+1) k (by omega) (by omega)
  simp only [iter,qf,b6 hi,bF hi,cond_true,bK,bR hi,bH hx hi]
  rw [List.drop_eq_getElem_cons hi]
  simp only [S9]
  cases seq xs[i].Kind to with
  | true=>rfl
  | false=>exact ih
theorem GS {k:Nat} {xs:List aC} {to:List UInt8} (hk:4194304≤k) (hx:xs.length≤1048576):lO k xs to=some (S9 to xs 0):=by
 unfold lO
 simp only [share]
 exact RK hx xs.length 0 k (by omega) (by omega)
def kinds (xs:List aC):List (List UInt8):=xs.map (·.Kind)
theorem Z4 (xs:List aC) (to:List UInt8):(kinds xs).any (fun k=>seq k to)=xs.any fun s=>seq s.Kind to:=by simp only [kinds,List.any_map];rfl
def bare (f:aB):Bool:=
 cond (bL f.Kind 1) (bL (f.Words.length:Int) 0&&(seq f.To []&&bL f.cz 0))
 (cond (bL f.Kind 2) (bL f.bP 0&&(bL f.b7 0&&(seq f.To []&&(bL f.cz 0&&seq f.bA []))))
 (cond (bL f.Kind 3) (bL (f.Words.length:Int) 0&&(seq f.To []&&(bL f.cz 0&&seq f.bA [])))
 (cond (bL f.Kind 4) (bL f.bP 0&&(bL f.b7 0&&(bL (f.Words.length:Int) 0&&seq f.bA []))) false)))
def sound (ks:List (List UInt8)) (f:aB):Bool:=
 cond (bL f.Kind 1) (ck 0 f.bP&&(ck f.bP f.b7&&(ck f.b7 1000000&&(seq f.bA []||cH f.bA))))
 (cond (bL f.Kind 2) (ck 1 (f.Words.length:Int)&&(ck (f.Words.length:Int) 6&&qQ f.Words))
 (cond (bL f.Kind 3) (ck 1 f.bP&&(ck f.bP f.b7&&ck f.b7 40))
 (cond (bL f.Kind 4) (ks.any (fun k=>seq k f.To)&&(ck 1 f.cz&&(ck f.cz 3&&(seq f.Default []&&(!bL f.cz 2||!f.cR))))) false)))
def qx (ks:List (List UInt8)) (f:aB):Bool:=cH f.Name&&(bare f&&((seq f.Default []||fits f f.Default)&&sound ks f))
theorem Nb {m n c:Int} (h:bL m n=true) (hn:n≠c):bL m c=false:=by
 simp only [bL,beq_iff_eq] at h ⊢
 rw [beq_eq_false_iff_ne,h];exact hn
theorem afq {f:aB} (h1:bL f.Kind 1=false) (h2:bL f.Kind 2=false) (h3:bL f.Kind 3=false) (h4:bL f.Kind 4=false):bare f=false:=by
 simp only [bare,h1,h2,h3,h4,cond_false]
theorem abt (n:Nat):bO 0 (n:Int)=!bL (n:Int) 0:=by
 by_cases h:n=0
 ·subst h;rfl
 ·rw [mB (by omega),show bL (n:Int) 0=false by simp [bL];omega];rfl
theorem abu (k:Nat) (f:aB) (ks:List (List UInt8)):∃ b,AE k f=some b∧(b&&sound ks f)=(bare f&&sound ks f):=by
 unfold AE
 simp only [share,abt]
 have key:∀ b:Bool,(sound ks f=true→b=bare f)→(b&&sound ks f)=(bare f&&sound ks f):=fun b h=>by
  cases hs:sound ks f with
  | true=>rw [h hs]
  | false=>simp
 cases h1:bL f.Kind 1 with
 | true=>
  have e2:=Nb h1 (c:=2) (by decide)
  have e4:=Nb h1 (c:=4) (by decide)
  refine ⟨bare f,?_,rfl⟩
  simp only [e2,e4,bare,h1]
  cases bL (f.Words.length:Int) 0<;>cases seq f.To []<;>rfl
 | false=>
  cases h2:bL f.Kind 2 with
  | true=>
   have e3:=Nb h2 (c:=3) (by decide)
   have e4:=Nb h2 (c:=4) (by decide)
   refine ⟨bare f,?_,rfl⟩
   simp only [e3,e4,bare,h1,h2]
   cases bL f.bP 0<;>cases bL f.b7 0<;>cases seq f.bA []<;>cases seq f.To []<;>cases bL f.cz 0<;>rfl
  | false=>
   cases h3:bL f.Kind 3 with
   | true=>
    have e4:=Nb h3 (c:=4) (by decide)
    refine ⟨bare f,?_,rfl⟩
    simp only [e4,bare,h1,h2,h3]
    cases seq f.bA []<;>cases bL (f.Words.length:Int) 0<;>cases seq f.To []<;>cases bL f.cz 0<;>rfl
   | false=>
    cases h4:bL f.Kind 4 with
    | true=>
     refine ⟨bare f,?_,rfl⟩
     simp only [bare,h1,h2,h3,h4]
     cases bL f.bP 0<;>cases bL f.b7 0<;>cases seq f.bA []<;>cases bL (f.Words.length:Int) 0<;>rfl
    | false=>
     have hs:sound ks f=false:=by simp only [sound,h1,h2,h3,h4,cond_false]
     rw [hs]
     cases bL f.bP 0<;>cases bL f.b7 0<;>cases seq f.bA []<;>cases bL (f.Words.length:Int) 0<;>cases seq f.To []<;>cases bL f.cz 0<;>exact ⟨_,rfl,by simp⟩
theorem UZ {k:Nat} {xs:List aC} {f:aB} (hk:8388608≤k) (hx:xs.length≤1048576) (hf:f.sd):so k xs f=some (qx (kinds xs) f):=by
 obtain ⟨f1,-,-,-,f5,-,-,-,-,f10,f11⟩:=hf
 obtain ⟨b,EX,EY⟩:=abu k f (kinds xs)
 unfold so qx
 simp only [share,OZ,eL (show 4194304≤k by omega) f1,eL (show 4194304≤k by omega) f11,EX,I8 (show 4194304≤k by omega) f5.1 f10,Ix hk f5,GS (show 4194304≤k by omega) hx,Option.bind_some,UY,← Z4]
 have e:(bare f&&((seq f.Default []||fits f f.Default)&&sound (kinds xs) f))=(b&&((seq f.Default []||fits f f.Default)&&sound (kinds xs) f)):=by
  cases hs:sound (kinds xs) f with
  | false=>simp
  | true=>rw [hs] at EY;simp only [Bool.and_true] at EY ⊢;rw [EY]
 rw [e]
 have fin:∀ c:Bool,cond c (some false) (cond (bL f.Kind 1) (cond (ck 0 f.bP) (cond (ck f.bP f.b7) (cond (ck f.b7 1000000) (cond (seq f.bA []) (some true) (some (cH f.bA))) (some false)) (some false)) (some false))
   (cond (bL f.Kind 2) (cond (ck 1 (f.Words.length:Int)&&ck (f.Words.length:Int) 6) (some (qQ f.Words)) (some false))
   (cond (bL f.Kind 3) (cond (ck 1 f.bP) (cond (ck f.bP f.b7) (some (ck f.b7 40)) (some false)) (some false))
   (cond (bL f.Kind 4) (cond ((kinds xs).any fun k=>seq k f.To) (cond (ck 1 f.cz&&ck f.cz 3) (cond (seq f.Default []) (cond (!bL f.cz 2) (some true) (some (!f.cR))) (some false)) (some false)) (some false)) (some false)))))=some (!c&&sound (kinds xs) f):=by
  intro c
  cases c with
  | true=>rfl
  | false=>
   simp only [cond_false,Bool.not_false,Bool.true_and,sound]
   cases bL f.Kind 1 with
   | true=>cases ck 0 f.bP<;>cases ck f.bP f.b7<;>cases ck f.b7 1000000<;>cases seq f.bA []<;>rfl
   | false=>cases bL f.Kind 2 with
    | true=>cases ck 1 (f.Words.length:Int)<;>cases ck (f.Words.length:Int) 6<;>rfl
    | false=>cases bL f.Kind 3 with
     | true=>cases ck 1 f.bP<;>cases ck f.bP f.b7<;>rfl
     | false=>cases bL f.Kind 4 with
      | true=>cases (kinds xs).any fun k=>seq k f.To<;>cases ck 1 f.cz<;>cases ck f.cz 3<;>cases seq f.Default []<;>cases bL f.cz 2<;>rfl
      | false=>rfl
 simp only [fin]
 cases cH f.Name<;>cases b<;>cases seq f.Default []<;>cases fits f f.Default<;>rfl
section
variable {α R:Type} {x:List α} {B:Nat}
def W6 (p:Nat→α→Bool):Nat→List α→Bool
 | _,[]=>true
 | i,a::r=>p i a&&W6 p (i+1) r
theorem Z5 {p:Nat→α→Bool} {l:Nat→Int→R} {E O:R} (he:∀ k,l (k+1) (x.length:Int)=E)
  (h:∀ k i (hi:i < x.length),B≤k→l (k+1) (i:Int)=cond (p i x[i]) (l k ((i+1:Nat):Int)) O) (k:Nat) (hk:B+x.length+1≤k):l k 0=cond (W6 p 0 x) E O:=by
 have go:∀ m i k,i+m=x.length→B+m+1≤k→l k (i:Int)=cond (W6 p i (x.drop i)) E O:=by
  intro m
  induction m with
  | zero=>
   intro i k h1 h2
   obtain rfl:i=x.length:=by omega
   obtain ⟨k,rfl⟩:∃ j,k=j+1:=⟨k-1,by omega⟩
   simp [he,W6]
  | succ m ih=>
   intro i k h1 h2
   obtain ⟨k,rfl⟩:∃ j,k=j+1:=⟨k-1,by omega⟩
   have hi:i < x.length:=by omega
   rw [h k i hi (by omega),List.drop_eq_getElem_cons hi]
   simp only [W6]
   cases p i x[i] with
   | true=>simpa using ih (i+1) k (by omega) (by omega)
   | false=>rfl
 have:=go x.length 0 k (by omega) (by omega)
 simpa using this
end
def Iy:List (List UInt8)→List aB→Bool
 | _,[]=>true
 | q,f::r=>!(q.any fun y=>seq y f.Name)&&Iy (q++[f.Name]) r
def oO (ks:List (List UInt8)) (s:aC):Bool:=ck (s.aU.length:Int) 6&&(s.aU.all (qx ks)&&Iy [] s.aU)
def eM (xs:List aC):Bool:=ck (xs.length:Int) 6&&(qQ (kinds xs)&&xs.all (oO (kinds xs)))
theorem RL {p:aB→Bool}:∀ (r pre:List aB),W6 (fun i f=>p f&&!(((pre++r).take i).any fun g=>seq g.Name f.Name)) pre.length r=(r.all p&&Iy (pre.map (·.Name)) r)
 | [],_=>rfl
 | f::r,pre=>by
  have ih:=RL (p:=p) r (pre++[f])
  simp only [List.append_assoc,List.singleton_append,List.length_append,List.length_cons,List.length_nil,List.map_append,List.map_cons,List.map_nil] at ih
  simp only [W6,Iy,List.all_cons]
  rw [ih,List.take_left]
  have e:(pre.any fun g=>seq g.Name f.Name)=((pre.map (·.Name)).any fun y=>seq y f.Name):=by rw [List.any_map];rfl
  rw [e]
  cases p f<;>cases (pre.map (·.Name)).any fun y=>seq y f.Name<;>cases r.all p<;>rfl
theorem abv {k:Nat} {xs:List aC} {i:Int} {q:Nat} {s:aC} {J:List aC→Int→Int→aC→Option Bool} (hq:q < s.aU.length) (hs:s.aU.length≤1048576) (hk:4194304≤k):
  iter (ts:=jI) (R:=Bool) k (fe J) xs i (q:Int) (0:Int) s=cond ((s.aU.take q).any fun g=>seq g.Name s.aU[q].Name) (some false) (J xs i q s):=by
 have hl:(s.aU.take q).length=q:=by simp;omega
 refine zF (x:=s.aU.take q) (p:=fun g=>seq g.Name s.aU[q].Name) (B:=0) (l:=fun k j=>iter (ts:=jI) (R:=Bool) k (fe J) xs i (q:Int) j s)
  (fun k=>by simp only [iter,fe,hl,cf,cond_false]<;>rfl)
  (fun k j hj _=>?_) k (by omega)
 rw [hl] at hj
 have ko:j < s.aU.length:=by omega
 simp only [iter,fe,b6 hj,bF ko,bF hq,cond_true,bK,bR ko,bR hq,bH (n:=q) (by omega) hj,List.getElem_take]<;>rfl
theorem abw {k:Nat} {xs:List aC} {i:Int} {s:aC} {J:List aC→Int→Option Bool} (hx:xs.length≤1048576) (hs:s.sd) (hk:4194304*3≤k):
  iter (ts:=fG) (R:=Bool) k (dO J) xs i (0:Int) s=cond (s.aU.all (qx (kinds xs))&&Iy [] s.aU) (J xs i) (some false):=by
 have h:=Z5 (x:=s.aU) (p:=fun q f=>qx (kinds xs) f&&!((s.aU.take q).any fun g=>seq g.Name f.Name)) (B:=4194304*2) (l:=fun k q=>iter (ts:=fG) (R:=Bool) k (dO J) xs i q s) (E:=J xs i) (O:=some false)
  (fun k=>by simp only [iter,dO,cf,cond_false]<;>rfl)
  (fun k q hq hb=>by
   simp only [iter,dO,share,b6 hq,bF hq,cond_true,bK,bR hq,UZ (show 8388608≤k by omega) hx (hs.2.2 _ (dG hq)),Option.bind_some]
   cases qx (kinds xs) s.aU[q] with
   | false=>rfl
   | true=>
    simp only [Bool.not_true,cond_false,Bool.true_and]
    refine (abv hq hs.2.1 (by omega)).trans ?_
    rw [bH hs.2.1 hq]
    cases (s.aU.take q).any fun g=>seq g.Name s.aU[q].Name<;>rfl) k (by have:=hs.2.1;omega)
 have e:=RL (p:=qx (kinds xs)) s.aU []
 simp only [List.nil_append,List.length_nil,List.map_nil] at e
 rw [e] at h
 exact h
theorem Pc {k:Nat} {xs:List aC} (hx:gW aC.sd xs) (hk:4194304*4≤k):nx k xs=some (eM xs):=by
 unfold nx
 have h:=fq (x:=xs) (p:=fun o s=>Cj (o.map (·.Kind)) s.Kind&&oO (kinds xs) s) (B:=4194304*3) (l:=fun k i=>iter (ts:=ga) (R:=Bool) k (d_ (some true)) xs i) (E:=some true) (O:=some false)
  (fun k=>by simp only [iter,d_,cf,cond_false]<;>rfl)
  (fun k i hi hb=>by
   have hsi:=hx.2 _ (dG hi)
   simp only [iter,d_,share,b6 hi,bF hi,cond_true,bK,bR hi,eL (show 4194304≤k by omega) hsi.1,Option.bind_some,bH hx.1 hi]
   have fin:∀ c:Bool,cond c (some false) (iter (ts:=fG) (R:=Bool) k (dO fun aiY aiZ=>iter (ts:=ga) (R:=Bool) k (d_ (some true)) aiY (aQ .i64 aiZ 1)) xs (i:Int) (0:Int) xs[i]) =
     cond (!c&&(xs[i].aU.all (qx (kinds xs))&&Iy [] xs[i].aU)) (iter (ts:=ga) (R:=Bool) k (d_ (some true)) xs ((i+1:Nat):Int)) (some false):=by
    intro c
    cases c with
    | true=>rfl
    | false=>
     refine (abw hx.1 hsi (by omega)).trans ?_
     rw [bH hx.1 hi]
     rfl
   simp only [Cj,oO,← YC]
   rcases Nat.eq_zero_or_pos i with rfl | h0
   ·simp only [sZ,l9]
    cases cH xs[0].Kind with
    | false=>exact (fin true).trans rfl
    | true=>exact fin _
   ·have c9:i-1 < xs.length:=by omega
    simp only [A1 h0,qP h0 (by have:=hx.1;omega),bF c9,cond_true,bK,bR c9,l_ h0 hi,Option.map_some]
    cases cH xs[i].Kind with
    | false=>exact (fin true).trans rfl
    | true=>
     cases slt xs[i-1].Kind xs[i].Kind with
     | false=>exact (fin true).trans rfl
     | true=>exact fin _) k (by have:=hx.1;omega)
 simp only [share]
 have e1:chain (fun o s=>Cj (o.map (·.Kind)) s.Kind&&oO (kinds xs) s) none xs=(qQ (kinds xs)&&xs.all (oO (kinds xs))):=by
  rw [ym,yn]
  congr 1
  exact (L5 (f:=aC.Kind) (p:=Cj) xs none).symm
 rw [e1] at h
 simp only [eM,cO]
 cases ck (xs.length:Int) 6 with
 | false=>rfl
 | true=>exact h.trans (by cases qQ (kinds xs)&&xs.all (oO (kinds xs))<;>rfl)
theorem U0 {k:Nat} {f:aB} {ks:List (List UInt8)} (hk:4194304≤k) (hx:ks.length≤1048576) (h4:bL f.Kind 4=true):js k ⟨f⟩ ks=some (sound ks f):=by
 unfold js
 simp only [share]
 have h:=fun J:bG→Bool→Option Bool=>hY (S:=Bool) (x:=ks) (f:=fun (t:Bool) y=>t||seq y f.To) (B:=0) (l:=fun k t i=>iter (ts:=nP) (R:=Bool) k (gf J) ⟨f⟩ t ks (ks.length:Int) i) (J:=fun t=>J ⟨f⟩ t) (fun _ _=>True)
  (fun k t _=>by simp only [iter,gf,cf,cond_false]<;>rfl)
  (fun k i t hi _ _=>⟨by simp only [iter,gf,share,b6 hi,bF hi,cond_true,bK,bR hi,bH hx hi];cases t<;>rfl,trivial⟩) k false (by omega) trivial
 have e:∀ (y:List (List UInt8)) (t:Bool),y.foldl (fun (t:Bool) y=>t||seq y f.To) t=(t||y.any fun k=>seq k f.To):=by
  intro y
  induction y with
  | nil=>intro t;simp
  | cons a r ih=>intro t;rw [List.foldl_cons,ih,List.any_cons,Bool.or_assoc]
 refine (h _).trans ?_
 rw [e]
 have e1:=Nb h4 (c:=1) (by decide)
 have e2:=Nb h4 (c:=2) (by decide)
 have e3:=Nb h4 (c:=3) (by decide)
 simp only [e,sound,e1,e2,e3,h4,Bool.false_or]
 cases ks.any fun k=>seq k f.To<;>cases ck 1 f.cz<;>cases ck f.cz 3<;>cases seq f.Default []<;>cases bL f.cz 2<;>cases f.cR<;>rfl
def iN (n:List UInt8) (m:List cq):Int:=ja (fun p:cq=>seq n p.Key) (fun p:cq=>p.El) (0:Int) m
def see (n:List UInt8) (m:List cq):List cq:=lb (fun p:cq=>seq n p.Key) m ⟨n,aQ .i64 (iN n m) 1⟩
theorem RM (n n':List UInt8) (m:List cq):iN n' (see n m)=cond (seq n' n) (aQ .i64 (iN n m) 1) (iN n' m):=L8 (key:=cq.Key) (y:=⟨n,aQ .i64 (iN n m) 1⟩)
def YD (ks:List (List UInt8)) (m:List cq) (_:Nat) (f:aB):List cq ⊕ Option Bool:=cond (qx ks f&&!bO 1 (iN f.Name (see f.Name m))) (.inl (see f.Name m)) (.inr (some false))
theorem aeU (ks:List (List UInt8)):∀ (r:List aB) (i:Nat) (m:List cq) (q:List (List UInt8)),(∀ n,iN n m=if q.any (fun y=>seq y n) then 1 else 0)→fin (fun _=>some true) (scan (YD ks) r i m)=some (r.all (qx ks)&&Iy q r)
 | [],_,_,_,_=>rfl
 | f::r,i,m,q,h=>by
  simp only [scan,YD,List.all_cons,Iy]
  have e0:iN f.Name (see f.Name m)=aQ .i64 (iN f.Name m) 1:=by rw [RM,FI];rfl
  rw [e0,h f.Name]
  cases qx ks f with
  | false=>rfl
  | true=>
   cases hq:q.any fun y=>seq y f.Name with
   | true=>
    simp only [if_true]
    rw [show (aQ .i64 (1:Int) 1)=2 from rfl,show bO 1 2=true from rfl]
    simp [fin]
   | false=>
    simp only [Bool.false_eq_true,if_false]
    rw [show (aQ .i64 (0:Int) 1)=1 from rfl,show bO 1 1=false from rfl]
    simp only [Bool.not_false,Bool.and_true,cond_true,Bool.true_and]
    refine aeU ks r (i+1) _ (q++[f.Name]) fun n=>?_
    rw [RM,h f.Name,h n,hq,List.any_append]
    cases hn:seq n f.Name with
    | true=>
     have e:=ee.1 hn
     subst e
     simp [FI];rfl
    | false=>
     rw [show (([f.Name]:List (List UInt8)).any fun y=>seq y n)=false by simp [Ku f.Name n,hn],Bool.or_false];rfl
set_option maxHeartbeats 1000000 in
theorem Q_ {k:Nat} {s:aC} {ks:List (List UInt8)} (hs:s.sd) (U1:ks.length≤1048576) (hk:4194304*4≤k):yb k s ks=some (oO ks s):=by
 unfold yb
 have h:=L4 (S:=List cq) (R:=Option Bool) (x:=s.aU) (f:=YD ks) (B:=4194304*3) (l:=fun k m i=>iter (ts:=qL) (R:=Bool) k (my (some true)) ks s.aU (s.aU.length:Int) i m) (J:=fun _=>some true) (fun _ _=>True)
  (fun k m _=>by simp only [iter,my,cf,cond_false]<;>rfl)
  (fun k i m hi hb _=>⟨by
   obtain ⟨f1,-,-,-,f5,-,-,-,-,f10,f11⟩:=hs.2.2 _ (dG hi)
   have hk1:4194304≤k:=by omega
   have hk2:8388608≤k:=by omega
   simp only [iter,my,share,b6 hi,bF hi,cond_true,bK,bR hi,bH hs.2.1 hi,gG hk1 f1,Option.bind_some]
   have em:(lb (fun p:cq=>seq s.aU[i].Name p.Key) m (⟨s.aU[i].Name,(aQ .i64 (ja (fun p:cq=>seq s.aU[i].Name p.Key) (fun p:cq=>p.El) (0:Int) m) (1:Int))⟩:cq))=see s.aU[i].Name m:=rfl
   have es:ja (fun p:cq=>seq s.aU[i].Name p.Key) (fun p:cq=>p.El) (0:Int) (see s.aU[i].Name m)=iN s.aU[i].Name (see s.aU[i].Name m):=rfl
   simp only [em,es]
   unfold YD qx
   generalize see s.aU[i].Name m=m'
   generalize iter (ts:=qL) (R:=Bool) k (my (some true))=rec
   generalize hF:s.aU[i]=f at *
   cases cH f.Name with
   | false=>rfl
   | true=>
    simp only [Bool.not_true,cond_false,Bool.true_and,v_,vj,vi,vh,vg,Option.bind_some]
    cases bO 1 (iN f.Name m') with
    | true=>simp [fin]<;>rfl
    | false=>
     simp only [cond_false,Bool.not_false,Bool.and_true]
     cases k1:bL f.Kind 1 with
     | true=>
      simp only [cond_true,Option.bind_some,zd,lU,lV,uG hk1 f5.1 f10,gG hk1 f11,bare,sound,k1]
      cases bL (f.Words.length:Int) 0<;>cases seq f.To []<;>cases bL f.cz 0<;>cases ck 0 f.bP<;>cases ck f.bP f.b7<;>cases ck f.b7 1000000<;>cases seq f.bA []<;>cases cH f.bA<;>cases seq f.Default []<;>cases fits f f.Default<;>rfl
     | false=>
      simp only [cond_false]
      cases k2:bL f.Kind 2 with
      | true=>
       simp only [cond_true,Option.bind_some,zd,nS,nU,uG hk1 f5.1 f10,uH hk2 f5,bare,sound,k1,k2]
       cases bL f.bP 0<;>cases bL f.b7 0<;>cases seq f.To []<;>cases bL f.cz 0<;>cases seq f.bA []<;>cases ck 1 (f.Words.length:Int)<;>cases ck (f.Words.length:Int) 6<;>cases qQ f.Words<;>cases seq f.Default []<;>cases fits f f.Default<;>rfl
      | false=>
       simp only [cond_false]
       cases k3:bL f.Kind 3 with
       | true=>
        simp only [cond_true,Option.bind_some,zd,nQ,nR,uG hk1 f5.1 f10,bare,sound,k1,k2,k3]
        cases bL (f.Words.length:Int) 0<;>cases seq f.To []<;>cases bL f.cz 0<;>cases seq f.bA []<;>cases ck 1 f.bP<;>cases ck f.bP f.b7<;>cases ck f.b7 40<;>cases seq f.Default []<;>cases fits f f.Default<;>rfl
       | false=>
        simp only [cond_false]
        cases k4:bL f.Kind 4 with
        | true=>
         simp only [cond_true,Option.bind_some,zd,nO,U0 hk1 U1 k4,uG hk1 f5.1 f10]
         generalize sound ks f=sd
         simp only [bare,k1,k2,k3,k4]
         cases bL f.bP 0<;>cases bL f.b7 0<;>cases bL (f.Words.length:Int) 0<;>cases seq f.bA []<;>cases sd<;>cases seq f.Default []<;>cases fits f f.Default<;>rfl
        | false=>rw [afq k1 k2 k3 k4];rfl,fun _ _=>trivial⟩) k [] (by have:=hs.2.1;omega) trivial
 simp only [share,oO,cO]
 cases ck (s.aU.length:Int) 6 with
 | false=>rfl
 | true=>exact h.trans (by rw [aeU ks s.aU 0 [] [] fun n=>rfl];rfl)
theorem zI {k:Nat} {xs:List aC} (hx:gW aC.sd xs) (hk:4194304*5≤k):ez k xs=some (eM xs):=by
 unfold ez
 have abx:gW dq (kinds xs):=⟨by simp only [kinds,List.length_map];exact hx.1,fun y hy=>by
  obtain ⟨s,h1,rfl⟩:=List.mem_map.1 hy
  exact (hx.2 s h1).1⟩
 have h1:=fun (J:List aC→List (List UInt8)→Option Bool)=>hY (S:=List (List UInt8)) (x:=xs) (f:=fun (q:List (List UInt8)) s=>q++[s.Kind]) (B:=0) (l:=fun k q i=>iter (ts:=ry) (R:=Bool) k (jt J) xs xs (xs.length:Int) i q) (J:=fun q=>J xs q) (fun i q=>q.length=i)
  (fun k q _=>by simp only [iter,jt,cf,cond_false]<;>rfl)
  (fun k i q hi _ hq=>⟨by
   have:=hx.1
   simp only [iter,jt,b6 hi,bF hi,cond_true,bK,bR hi,bH hx.1 hi]
   rw [pt (by simp;omega) (by omega)];rfl,by simp [hq]⟩) k [] (by have:=hx.1;omega) rfl
 have e:∀ (y:List aC) (q:List (List UInt8)),y.foldl (fun (q:List (List UInt8)) s=>q++[s.Kind]) q=q++kinds y:=by
  intro y
  induction y with
  | nil=>intro q;simp [kinds]
  | cons a r ih=>intro q;rw [List.foldl_cons,ih];simp [kinds]
 have h2:=gF (x:=xs) (p:=oO (kinds xs)) (B:=4194304*4) (l:=fun k i=>iter (ts:=pS) (R:=Bool) k (iF (some true)) xs (xs.length:Int) i (kinds xs)) (E:=some true) (O:=some false)
  (fun k=>by simp only [iter,iF,cf,cond_false]<;>rfl)
  (fun k i hi hb=>by
   simp only [iter,iF,b6 hi,bF hi,cond_true,bK,bR hi,bH hx.1 hi,Q_ (hx.2 _ (dG hi)) abx.1 hb,Option.bind_some]
   cases oO (kinds xs) xs[i]<;>rfl) k (by have:=hx.1;omega)
 simp only [share,eM,cO]
 cases hl:ck (xs.length:Int) 6 with
 | false=>rfl
 | true=>
  rw [show GM (0:Int) (xs.length:Int) 16=true by
   simp only [GM,Bool.and_eq_true,decide_eq_true_eq];have:=hx.1;omega]
  simp only [Bool.not_true,cond_false,bK]
  refine (h1 _).trans ?_
  rw [e,List.nil_append]
  simp only [uH (show 8388608≤k by omega) abx,Option.bind_some,h2]
  cases qQ (kinds xs)<;>cases xs.all (oO (kinds xs))<;>rfl
theorem U2 (a b:Int):bL a b=bL b a:=by
 rw [Bool.eq_iff_iff];simp only [bL,beq_iff_eq];exact eq_comm
theorem GU (to:List UInt8):∀ (xs:List aC) (i:Nat),S9 to xs i=zH (fun s=>seq s.Kind to) xs i
 | [],_=>rfl
 | s::r,i=>by simp only [S9,zH,GU to r]
theorem GV {k:Nat} {xs:List aC} {n:List UInt8} (hk:4194304≤k) (hx:xs.length≤1048576):gL k xs n=some (zH (fun s=>seq s.Kind n) xs 0):=by
 unfold gL
 simp only [share]
 exact rD (x:=xs) (p:=fun s=>seq s.Kind n) (l:=fun k i=>iter (ts:=ze) (R:=Int) k (qo (some (-1))) n xs (xs.length:Int) i)
  (fun k=>by simp only [iter,qo,cf,cond_false]<;>rfl)
  (fun k i hi=>by simp only [iter,qo,b6 hi,bF hi,cond_true,bK,bR hi,bH hx hi]<;>rfl) k (by omega)
def cx (xs:List aC) (o:aA):Option (List aB):=match xs.find? fun s=>seq s.Kind o.Kind with
 | some s=>cond (bL (s.aU.length:Int) (o.aN.length:Int)) (some s.aU) none
 | none=>none
theorem jA {xs:List aC} {o:aA} {fs:List aB} (h:cx xs o=some fs):fs.length=o.aN.length∧∃ s,s∈xs∧s.aU=fs:=by
 unfold cx at h
 cases hf:xs.find? fun s=>seq s.Kind o.Kind with
 | none=>rw [hf] at h;cases h
 | some s=>
  rw [hf] at h
  simp only at h
  cases he:bL (s.aU.length:Int) (o.aN.length:Int) with
  | false=>rw [he] at h;cases h
  | true=>
   rw [he] at h
   cases h
   simp only [bL,beq_iff_eq] at he
   exact ⟨by omega,s,List.mem_of_find?_eq_some hf,rfl⟩
theorem oP {k:Nat} {xs:List aC} {o:aA} (hk:4194304≤k) (hx:xs.length≤1048576):fH k xs o=some ((cx xs o).getD [],(cx xs o).isSome):=by
 unfold fH cx
 rw [GS hk hx,GU]
 simp only [share,Option.bind_some]
 rcases fv (fun s:aC=>seq s.Kind o.Kind) xs with ⟨h1,h2⟩ | ⟨j,hj,h1,h2,_⟩
 ·rw [h1,h2];rfl
 ·rw [h1,h2,eh (by omega),bF hj,bR hj]
  simp only
  cases bL (xs[j].aU.length:Int) (o.aN.length:Int)<;>rfl
theorem yg {k:Nat} {xs:List aC} {o:aA} (hk:4194304≤k) (hx:xs.length≤1048576):gZ k xs o=some ((cx xs o).getD [],(cx xs o).isSome):=by
 unfold gZ cx
 rw [GV hk hx]
 simp only [share,Option.bind_some]
 rcases fv (fun s:aC=>seq s.Kind o.Kind) xs with ⟨h1,h2⟩ | ⟨j,hj,h1,h2,_⟩
 ·rw [h1,h2];rfl
 ·rw [h1,h2,eh (by omega),bF hj,bR hj,U2 (o.aN.length:Int)]
  simp only
  cases bL (xs[j].aU.length:Int) (o.aN.length:Int)<;>rfl
def Pd (xs:List aC) (o:aA):Bool:=(cx xs o).isSome&&(cH o.Name&&(cH o.aZ&&(ck (o.bX.length:Int) 3&&(qQ o.bX&&(ck 0 o.Version&&ck o.Version 1000000)))))
def Pe (vs:List (List UInt8)) (i:Nat) (f:aB):Option (Int×Int):=
 cond (seq (vs.getD i []) []) (cond f.cR (some (2,(i:Int))) none) (cond (fits f (vs.getD i [])) none (some (3,(i:Int))))
def S_ (xs:List aC) (o:aA):Int×Int:=
 cond (eM xs&&Pd xs o) ((first (Pe o.aN) ((cx xs o).getD []) 0).getD (0,0)) (1,0)
theorem L_ {α:Type} {d:α} {x:List α} {i:Nat} (h:i < x.length):x.getD i d=x[i]:=by simp [List.getD,h]
end Go.Proofs.YtljfmaaadnoggaaGreatDoor.Pu
