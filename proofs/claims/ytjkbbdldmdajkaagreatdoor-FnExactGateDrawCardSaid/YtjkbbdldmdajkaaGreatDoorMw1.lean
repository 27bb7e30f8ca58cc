/- Plain words and laws. No condition. -/
import Derived.Test.YtjkbbdldmdajkaaGreatDoorPvMk
set_option linter.unusedSimpArgs false
set_option linter.unusedVariables false
namespace Go.Proofs.YtjkbbdldmdajkaaGreatDoor.Pu
open Go Go.RowKit Go.Proofs.YtjkbbdldmdajkaaGreatDoor.c5 Go.Proofs.YtjkbbdldmdajkaaGreatDoor.Fn
theorem Yd.ofE {α:Type} {F:Nat→Option α} {a:α} (B:Nat) (h:∀ k,B≤k→F k=some a):Yd F a:=⟨B,h⟩
theorem bN {R:Type} (x:Option R):bE true x=x:=rfl
theorem agp {α β γ:Type} (x:α) (f:α→γ) (g:β→γ):xA (.inl x) f g=f x:=rfl
theorem ac9 {α β γ:Type} (x:β) (f:α→γ) (g:β→γ):xA (.inr x) f g=g x:=rfl
theorem aga {α β:Type} (x:α) (f:α→β):share x f=f x:=rfl
theorem cd {i n:Nat} (h:i < n):bM (i:Int) (n:Int)=true:=kZ (by omega)
theorem cg {n:Nat}:bM (n:Int) (n:Int)=false:=e9 (by omega)
theorem bO {i n:Nat} (h:i < n):bW (i:Int) n=true:=HT (by omega) (by omega)
theorem bQ {i n:Nat} (hn:n≤1048576) (h:i < n):aN .i64 (i:Int) 1=((i+1:Nat):Int):=by
 rw [s9 (by omega) (by omega)];norm_cast
theorem qe {i:Nat} (h0:0 < i) (hi:i≤1048576):bS .i64 (i:Int) 1=((i-1:Nat):Int):=by
 rw [VH (by omega) (by omega)];omega
theorem ze {i:Nat} (h:0 < i):bM 0 (i:Int)=true:=kZ (by omega)
theorem r_:bM 0 ((0:Nat):Int)=false:=rfl
theorem agq {n:Nat} (h:n≤1048576):n≤maxLen:=by have:=max_eq;omega
theorem dB {α:Type} {x:List α} {i:Nat} (h:i < x.length):x[i]∈x:=List.getElem_mem h
theorem bP {α:Type} {d:α} {x:List α} {i:Nat} (hi:i < x.length):nth d x (i:Int)=x[i]:=LB hi
section
variable {α R S:Type} {x:List α} {B:Nat}
theorem HU {p:α→Bool} {l:Nat→Int→R} {E O:R} (he:∀ k,l (k+1) (x.length:Int)=E)
  (h:∀ k i (hi:i < x.length),B≤k→l (k+1) (i:Int)=cond (p x[i]) O (l k ((i+1:Nat):Int))) (k:Nat) (hk:B+x.length+1≤k):l k 0=cond (x.any p) O E:=by
 have go:∀ m i k,i+m=x.length→B+m+1≤k→l k (i:Int)=cond ((x.drop i).any p) O E:=by
  intro m
  induction m with
  | zero=>
   intro i k h1 h2;obtain rfl:i=x.length:=by omega
   obtain ⟨k,rfl⟩:∃ j,k=j+1:=⟨k-1,by omega⟩;simp [he]
  | succ m ih=>
   intro i k h1 h2;obtain ⟨k,rfl⟩:∃ j,k=j+1:=⟨k-1,by omega⟩;have hi:i < x.length:=by omega
   rw [h k i hi (by omega),List.drop_eq_getElem_cons hi,List.any_cons];cases p x[i] with
   | true=>rfl
   | false=>simpa using ih (i+1) k (by omega) (by omega)
 have:=go x.length 0 k (by omega) (by omega);simpa using this
theorem gI {p:α→Bool} {l:Nat→Int→R} {E O:R} (he:∀ k,l (k+1) (x.length:Int)=E)
  (h:∀ k i (hi:i < x.length),B≤k→l (k+1) (i:Int)=cond (p x[i]) (l k ((i+1:Nat):Int)) O) (k:Nat) (hk:B+x.length+1≤k):l k 0=cond (x.all p) E O:=by
 have:=HU (p:=fun a=>!p a) (l:=l) (E:=E) (O:=O) he (fun k i hi hb=>by rw [h k i hi hb];cases p x[i]<;>rfl) k hk;rw [this];have e:(x.any fun a=>!p a)=!x.all p:=by simp [List.any_eq_not_all_not]
 rw [e];cases x.all p<;>rfl
def scan (f:S→Nat→α→S ⊕ R):List α→Nat→S→S ⊕ R
 | [],_,s=>.inl s
 | a::r,i,s=>match f s i a with
  | .inl s'=>scan f r (i+1) s'
  | .inr y=>.inr y
def fin (J:S→R):S ⊕ R→R
 | .inl s=>J s
 | .inr y=>y
theorem Mj {l:Nat→S→Int→R} {J:S→R} {f:S→Nat→α→S ⊕ R} (I:Nat→S→Prop)
  (he:∀ k s,I x.length s→l (k+1) s (x.length:Int)=J s)
  (h:∀ k i s (hi:i < x.length),B≤k→I i s→l (k+1) s (i:Int)=fin (fun s'=>l k s' ((i+1:Nat):Int)) (f s i x[i])∧∀ s',f s i x[i]=.inl s'→I (i+1) s'):
  ∀ m i k s,i+m=x.length→B+m+1≤k→I i s→l k s (i:Int)=fin J (scan f (x.drop i) i s):=by
 intro m
 induction m with
 | zero=>
  intro i k s h1 h2 h3;obtain rfl:i=x.length:=by omega
  obtain ⟨k,rfl⟩:∃ j,k=j+1:=⟨k-1,by omega⟩;rw [he k s h3,List.drop_length];rfl
 | succ m ih=>
  intro i k s h1 h2 h3;obtain ⟨k,rfl⟩:∃ j,k=j+1:=⟨k-1,by omega⟩;have hi:i < x.length:=by omega
  obtain ⟨h4,h5⟩:=h k i s hi (by omega) h3;rw [h4,List.drop_eq_getElem_cons hi];simp only [scan];cases hf:f s i x[i] with
  | inl s'=>exact ih (i+1) k s' (by omega) (by omega) (h5 s' hf)
  | inr y=>rfl
theorem O_ {l:Nat→S→Int→R} {J:S→R} {f:S→Nat→α→S ⊕ R} (I:Nat→S→Prop)
  (he:∀ k s,I x.length s→l (k+1) s (x.length:Int)=J s)
  (h:∀ k i s (hi:i < x.length),B≤k→I i s→l (k+1) s (i:Int)=fin (fun s'=>l k s' ((i+1:Nat):Int)) (f s i x[i])∧∀ s',f s i x[i]=.inl s'→I (i+1) s')
  (k:Nat) (s:S) (hk:B+x.length+1≤k) (h0:I 0 s):l k s 0=fin J (scan f x 0 s):=by
 have:=Mj I he h x.length 0 k s (by omega) hk h0;simpa using this
theorem fm {l:Nat→S→Int→R} {J:S→R} {f:S→α→S} (I:Nat→S→Prop)
  (he:∀ k s,I x.length s→l (k+1) s (x.length:Int)=J s)
  (h:∀ k i s (hi:i < x.length),B≤k→I i s→l (k+1) s (i:Int)=l k (f s x[i]) ((i+1:Nat):Int)∧I (i+1) (f s x[i]))
  (k:Nat) (s:S) (hk:B+x.length+1≤k) (h0:I 0 s):l k s 0=J (x.foldl f s):=by
 have:=O_ (f:=fun s _ a=>.inl (f s a)) I he (fun k i s hi hb h0=>⟨(h k i s hi hb h0).1,fun s' e=>by cases e;exact (h k i s hi hb h0).2⟩) k s hk h0;rw [this];have e:∀ (y:List α) i s,scan (R:=R) (fun s _ a=>.inl (f s a)) y i s=.inl (y.foldl f s):=by
  intro y
  induction y with
  | nil=>intro i s;rfl
  | cons a r ih=>intro i s;simp only [scan,List.foldl_cons];exact ih _ _
 rw [e];rfl
end
def bt (c:UInt8):Int:=(c.toNat:Int)
theorem Mk (c:UInt8):0≤bt c∧bt c≤255:=by
 have:=c.toNat_lt;simp only [bt];omega
theorem xR {s:List UInt8} {i:Nat} (h:i < s.length):zZ s (i:Int)=bt s[i]:=by
 simp only [zZ,Int.toNat_natCast,List.getD,bt];rw [List.getElem?_eq_getElem h];rfl
theorem lQ {n b:Nat} (hn:n≤16777216) (hb:b≤100000):kW n b=true:=by
 have h1:n*b≤16777216*100000:=Nat.mul_le_mul hn hb;simp only [kW,Bool.and_eq_true,decide_eq_true_eq];omega
theorem wrap_u8 {n:Int} (h0:0≤n) (h1:n≤255):IntKind.u8.wrap n=n:=by
 simp only [IntKind.wrap,IntKind.bits,IntKind.signed,Bool.false_and];split
 ·rename_i h;simp at h
 ·omega
theorem Le (k:Nat) (a b c:Int):dw k a b c=some (b6 b a&&b6 a c):=by
 unfold dw;cases b6 b a<;>rfl
def nb (c:UInt8):Bool:=(b6 97 (bt c)&&b6 (bt c) 122)||((b6 48 (bt c)&&b6 (bt c) 57)||bI (bt c) 45)
theorem RT (k:Nat) (c:UInt8):uS k (bt c)=some (nb c):=by
 unfold uS nb;cases b6 97 (bt c)<;>cases b6 (bt c) 122<;>cases b6 48 (bt c)<;>cases b6 (bt c) 57<;>cases bI (bt c) 45<;>rfl
theorem Ub (k:Nat) (c:UInt8):ud k (bt c)=some (nb c):=by
 unfold ud nb;cases b6 97 (bt c)<;>cases b6 (bt c) 122<;>cases b6 48 (bt c)<;>cases b6 (bt c) 57<;>cases bI (bt c) 45<;>rfl
def cw (s:List UInt8):Bool:=b6 1 (s.length:Int)&&(b6 (s.length:Int) 16&&s.all nb)
theorem ea {k:Nat} {s:List UInt8} (hk:4194304≤k) (hs:dd s):ct k s=some (cw s):=by
 unfold ct cw;have h:=gI (x:=s) (p:=nb) (B:=0) (l:=fun k i=>iter (ts:=vV) (R:=Bool) k (nY (some true)) s i) (E:=some true) (O:=some false)
  (fun k=>by simp only [iter,nY,cg,cond_false]<;>rfl)
  (fun k i hi _=>by
   simp only [iter,nY,cd hi,bO hi,cond_true,bN,xR hi,RT,Option.bind_some,bQ hs hi];cases nb s[i]<;>rfl) k (by have:s.length≤1048576:=hs;omega)
 simp only [share,Le,Option.bind_some,h];cases b6 1 (s.length:Int)<;>cases b6 (s.length:Int) 16<;>cases s.all nb<;>rfl
theorem Kz {k:Nat} {s:List UInt8} (hk:4194304≤k) (hs:dd s):fM k s=some (s.all nb):=by
 unfold fM;have h:=gI (x:=s) (p:=nb) (B:=0) (l:=fun k i=>iter (ts:=uV) (R:=Bool) k (mW (some true)) s (s.length:Int) i) (E:=some true) (O:=some false)
  (fun k=>by simp only [iter,mW,cg,cond_false]<;>rfl)
  (fun k i hi _=>by
   simp only [iter,mW,cd hi,bO hi,cond_true,bN,xR hi,Ub,Option.bind_some,bQ hs hi];cases nb s[i]<;>rfl) k (by have:s.length≤1048576:=hs;omega)
 simp only [share];exact h.trans (by cases s.all nb<;>rfl)
theorem fP {k:Nat} {s:List UInt8} (hk:4194304≤k) (hs:dd s):cR k s=some (cw s):=by
 unfold cR cw;simp only [Kz hk hs,Option.bind_some];cases b6 1 (s.length:Int)<;>cases b6 (s.length:Int) 16<;>rfl
theorem VI (a b:Int):(!bM a b)=b6 b a:=by
 by_cases h:a < b
 ·rw [kZ h,RU (by omega)];rfl
 ·rw [e9 h,FW (by omega)];rfl
theorem cO (a b:Int):bM a b=!b6 b a:=by rw [← VI];simp
theorem Pa {s:List UInt8} (h:seq s []=true):cw s=false:=by
 have e:s=[]:=by simpa [seq] using h
 subst e;rfl
section
variable {α R S:Type} {x:List α} {B:Nat}
def chain (p:Option α→α→Bool):Option α→List α→Bool
 | _,[]=>true
 | q,a::r=>p q a&&chain p (some a) r
def ahead (x:List α) (i:Nat):Option α:=if i=0 then none else x[i-1]?
theorem lR:ahead x 0=none:=rfl
theorem lS {i:Nat} (h:0 < i) (hi:i < x.length):ahead x i=some (x[i-1]'(by omega)):=by
 unfold ahead;rw [if_neg (by omega)];exact List.getElem?_eq_getElem _
theorem fo {p:Option α→α→Bool} {l:Nat→Int→R} {E O:R} (he:∀ k,l (k+1) (x.length:Int)=E)
  (h:∀ k i (hi:i < x.length),B≤k→l (k+1) (i:Int)=cond (p (ahead x i) x[i]) (l k ((i+1:Nat):Int)) O) (k:Nat) (hk:B+x.length+1≤k):l k 0=cond (chain p none x) E O:=by
 have go:∀ m i k,i+m=x.length→B+m+1≤k→l k (i:Int)=cond (chain p (ahead x i) (x.drop i)) E O:=by
  intro m
  induction m with
  | zero=>
   intro i k h1 h2;obtain rfl:i=x.length:=by omega
   obtain ⟨k,rfl⟩:∃ j,k=j+1:=⟨k-1,by omega⟩;simp [he,chain]
  | succ m ih=>
   intro i k h1 h2;obtain ⟨k,rfl⟩:∃ j,k=j+1:=⟨k-1,by omega⟩;have hi:i < x.length:=by omega
   rw [h k i hi (by omega),List.drop_eq_getElem_cons hi];have e:some x[i]=ahead x (i+1):=by simp [ahead]
   simp only [chain,e];cases p (ahead x i) x[i] with
   | true=>simpa using ih (i+1) k (by omega) (by omega)
   | false=>rfl
 have:=go x.length 0 k (by omega) (by omega);simpa [ahead] using this
theorem qK {p q:Option α→α→Bool}:∀ (y:List α) (o:Option α),chain (fun o a=>p o a&&q o a) o y=(chain p o y&&chain q o y)
 | [],_=>rfl
 | a::r,o=>by
  simp only [chain,qK r];cases p o a<;>cases q o a<;>cases chain p (some a) r<;>rfl
theorem tx {p:α→Bool}:∀ (y:List α) (o:Option α),chain (fun _ a=>p a) o y=y.all p
 | [],_=>rfl
 | a::r,o=>by simp only [chain,tx r,List.all_cons]
theorem JA {β:Type} {f:α→β} {p:Option β→β→Bool}:∀ (y:List α) (o:Option α),chain p (o.map f) (y.map f)=chain (fun o a=>p (o.map f) (f a)) o y
 | [],_=>rfl
 | a::r,o=>by simp only [List.map_cons,chain];rw [← JA r];rfl
theorem Ml {p:α→Bool} {y:α}:oM p [] y=[y]:=rfl
theorem JB {p:α→Bool} {a y:α} {l:List α}:oM p (a::l) y=cond (p a) (y::l) (a::oM p l y):=by
 unfold oM;rw [List.findIdx?_cons];cases p a with
 | true=>rfl
 | false=>cases h:l.findIdx? p<;>simp [h]
theorem mq {β:Type} {p:α→Bool} {f:α→β} {d:β} {a:α} {l:List α}:m7 p f d (a::l)=cond (p a) (f a) (m7 p f d l):=by
 unfold m7;rw [List.find?_cons];cases p a<;>rfl
theorem AB {p:α→Bool} {a:α} {l:List α}:JC p (a::l)=(p a||JC p l):=by
 unfold JC;rw [List.findIdx?_cons];cases p a<;>cases l.findIdx? p<;>rfl
theorem cC {a b:List UInt8}:seq a b=true↔a=b:=by simp [seq]
theorem xS (a b:List UInt8):seq a b=seq b a:=by
 rw [Bool.eq_iff_iff,cC,cC];exact eq_comm
theorem JD {β:Type} {key:α→List UInt8} {f:α→β} {d:β} {y:α} {n:List UInt8}:∀ {l:List α},m7 (fun p=>seq n (key p)) f d (oM (fun p=>seq (key y) (key p)) l y)=cond (seq n (key y)) (f y) (m7 (fun p=>seq n (key p)) f d l)
 | []=>by rw [Ml,mq]
 | a::l=>by
  rw [JB];cases h:seq (key y) (key a) with
  | true=>
   have e:=cC.1 h;rw [cond_true,mq,mq,← e];cases seq n (key y)<;>rfl
  | false=>
   rw [cond_false,mq,mq,JD];cases h1:seq n (key a) with
   | false=>rfl
   | true=>
    have e:=cC.1 h1;subst e;rw [show seq (key a) (key y)=false by rw [xS];exact h];rfl
theorem W8 {key:α→List UInt8} {y:α} {n:List UInt8}:∀ {l:List α},JC (fun p=>seq n (key p)) (oM (fun p=>seq (key y) (key p)) l y)=(seq n (key y)||JC (fun p=>seq n (key p)) l)
 | []=>by rw [Ml,AB]
 | a::l=>by
  rw [JB];cases h:seq (key y) (key a) with
  | true=>
   have e:=cC.1 h;rw [cond_true,AB,AB,← e];cases seq n (key y)<;>rfl
  | false=>
   rw [cond_false,AB,AB,W8];cases seq n (key a)<;>cases seq n (key y)<;>rfl
end
def AD (q:Option (List UInt8)) (s:List UInt8):Bool:=cw s&&(match q with | none=>true | some p=>slt p s)
def qf (xs:List (List UInt8)):Bool:=chain AD none xs
abbrev Nm:=List UInt8
section
variable {α:Type} {x:List α} {B:Nat} {p:α→Bool}
def tz (p:α→Bool):List α→Nat→Int
 | [],_=>-1
 | a::r,i=>cond (p a) (i:Int) (tz p r (i+1))
theorem mr {l:Nat→Int→Option Int} (he:∀ k,l (k+1) (x.length:Int)=some (-1))
  (h:∀ k i (hi:i < x.length),l (k+1) (i:Int)=cond (p x[i]) (some (i:Int)) (l k ((i+1:Nat):Int))) (k:Nat) (hk:x.length+1≤k):l k 0=some (tz p x 0):=by
 have go:∀ m i k,i+m=x.length→m+1≤k→l k (i:Int)=some (tz p (x.drop i) i):=by
  intro m
  induction m with
  | zero=>
   intro i k h1 h2;obtain rfl:i=x.length:=by omega
   obtain ⟨k,rfl⟩:∃ j,k=j+1:=⟨k-1,by omega⟩;simp [he,tz]
  | succ m ih=>
   intro i k h1 h2;obtain ⟨k,rfl⟩:∃ j,k=j+1:=⟨k-1,by omega⟩;have hi:i < x.length:=by omega
   rw [h k i hi,List.drop_eq_getElem_cons hi];simp only [tz];cases p x[i] with
   | true=>rfl
   | false=>exact ih (i+1) k (by omega) (by omega)
 have:=go x.length 0 k (by omega) (by omega);simpa using this
theorem Pb:∀ (y:List α) (i:Nat),(tz p y i=-1∧y.find? p=none)∨∃ j,∃ h:j < y.length,tz p y i=((i+j:Nat):Int)∧y.find? p=some y[j]∧p y[j]=true
 | [],i=>.inl ⟨rfl,rfl⟩
 | a::r,i=>by
  simp only [tz,List.find?_cons];cases ha:p a with
  | true=>exact .inr ⟨0,by simp,by simp,by simp,ha⟩
  | false=>
   rcases Pb r (i+1) with ⟨h1,h2⟩ | ⟨j,hj,h1,h2,h3⟩
   ·exact .inl ⟨h1,h2⟩
   ·exact .inr ⟨j+1,by simpa using hj,by simp only [cond_false,h1];congr 1;omega,by simpa using h2,by simpa using h3⟩
theorem dG (p:α→Bool) (x:List α):(tz p x 0=-1∧x.find? p=none)∨∃ j,∃ h:j < x.length,tz p x 0=(j:Int)∧x.find? p=some x[j]∧p x[j]=true:=by
 rcases Pb (p:=p) x 0 with h | ⟨j,hj,h1,h2⟩
 ·exact .inl h
 ·exact .inr ⟨j,hj,by simpa using h1,h2⟩
end
section
variable {α R:Type} {x:List α} {B:Nat}
theorem JE {p:α→Bool} {l:Nat→Int→R} {E:R} {O:α→R} (he:∀ k,l (k+1) (x.length:Int)=E)
  (h:∀ k i (hi:i < x.length),B≤k→l (k+1) (i:Int)=cond (p x[i]) (O x[i]) (l k ((i+1:Nat):Int))) (k:Nat) (hk:B+x.length+1≤k):l k 0=(match x.find? p with | some a=>O a | none=>E):=by
 have go:∀ m i k,i+m=x.length→B+m+1≤k→l k (i:Int)=(match (x.drop i).find? p with | some a=>O a | none=>E):=by
  intro m
  induction m with
  | zero=>
   intro i k h1 h2;obtain rfl:i=x.length:=by omega
   obtain ⟨k,rfl⟩:∃ j,k=j+1:=⟨k-1,by omega⟩;simp [he]
  | succ m ih=>
   intro i k h1 h2;obtain ⟨k,rfl⟩:∃ j,k=j+1:=⟨k-1,by omega⟩;have hi:i < x.length:=by omega
   rw [h k i hi (by omega),List.drop_eq_getElem_cons hi,List.find?_cons];cases p x[i] with
   | true=>rfl
   | false=>exact ih (i+1) k (by omega) (by omega)
 have:=go x.length 0 k (by omega) (by omega);simpa using this
end
section
variable {α β R:Type} {x:List α} {B:Nat}
def first (g:Nat→α→Option β):List α→Nat→Option β
 | [],_=>none
 | a::r,i=>match g i a with
  | some c=>some c
  | none=>first g r (i+1)
theorem GG {g:Nat→α→Option β} {l:Nat→Int→R} {E:R} {O:β→R} (he:∀ k,l (k+1) (x.length:Int)=E)
  (h:∀ k i (hi:i < x.length),B≤k→l (k+1) (i:Int)=(match g i x[i] with | some c=>O c | none=>l k ((i+1:Nat):Int))) (k:Nat) (hk:B+x.length+1≤k):l k 0=(match first g x 0 with | some c=>O c | none=>E):=by
 have go:∀ m i k,i+m=x.length→B+m+1≤k→l k (i:Int)=(match first g (x.drop i) i with | some c=>O c | none=>E):=by
  intro m
  induction m with
  | zero=>
   intro i k h1 h2;obtain rfl:i=x.length:=by omega
   obtain ⟨k,rfl⟩:∃ j,k=j+1:=⟨k-1,by omega⟩;simp [he,first]
  | succ m ih=>
   intro i k h1 h2;obtain ⟨k,rfl⟩:∃ j,k=j+1:=⟨k-1,by omega⟩;have hi:i < x.length:=by omega
   rw [h k i hi (by omega),List.drop_eq_getElem_cons hi];simp only [first];cases g i x[i] with
   | some c=>rfl
   | none=>exact ih (i+1) k (by omega) (by omega)
 have:=go x.length 0 k (by omega) (by omega);simpa using this
theorem Pc {g g':Nat→α→Option β}:∀ (y:List α) (i:Nat),(∀ j a,y[j]?=some a→g (i+j) a=g' (i+j) a)→first g y i=first g' y i
 | [],_,_=>rfl
 | a::r,i,h=>by
  simp only [first];have h0:=h 0 a rfl;rw [Nat.add_zero] at h0;have hr:=Pc (g:=g) (g':=g') r (i+1) fun j b hb=>by have:=h (j+1) b (by simpa using hb);rwa [show i+(j+1)=i+1+j by omega] at this
  rw [h0,hr]
end
theorem LC:∀ a:List UInt8,slt a a=false
 | []=>rfl
 | a::r=>by
  have:=LC r;simp only [slt,Op.bytesLess] at *;simp [this]
theorem Mm:∀ {a b c:List UInt8},slt a b=true→slt b c=true→slt a c=true
 | [],b,c,h1,h2=>by
  cases c with
  | nil=>cases b<;>simp [slt,Op.bytesLess] at h2
  | cons=>rfl
 | a::r,b,c,h1,h2=>by
  cases b with
  | nil=>simp [slt,Op.bytesLess] at h1
  | cons b s=>
   cases c with
   | nil=>simp [slt,Op.bytesLess] at h2
   | cons c t=>
    have ih:=@Mm r s t;simp only [slt,Op.bytesLess,Bool.or_eq_true,Bool.and_eq_true,decide_eq_true_eq,beq_iff_eq] at *;rcases h1 with h1 | ⟨rfl,h1⟩
    ·rcases h2 with h2 | ⟨rfl,h2⟩
     ·exact .inl (UInt8.lt_trans h1 h2)
     ·exact .inl h1
    ·rcases h2 with h2 | ⟨rfl,h2⟩
     ·exact .inl h2
     ·exact .inr ⟨rfl,ih h1 h2⟩
theorem JF:∀ {xs:List (List UInt8)} {q:Option (List UInt8)},chain AD q xs=true→xs.Nodup∧∀ p,q=some p→∀ y,y∈xs→slt p y=true
 | [],_,_=>⟨List.nodup_nil,fun _ _ _ h=>by cases h⟩
 | a::r,q,h=>by
  simp only [chain,AD,Bool.and_eq_true] at h;obtain ⟨⟨-,h1⟩,h2⟩:=h;obtain ⟨h3,h4⟩:=JF h2;refine ⟨List.nodup_cons.2 ⟨fun hm=>?_,h3⟩,fun p hp y hy=>?_⟩
  ·have:=h4 a rfl a hm;rw [LC] at this;cases this
  ·subst hp;rcases List.mem_cons.1 hy with e | e
   ·exact e▸h1
   ·exact Mm h1 (h4 a rfl y e)
theorem Pd {xs:List (List UInt8)} (h:qf xs=true):xs.Nodup:=(JF h).1
theorem oU {a b:Int} (h:b6 a b=true):a≤b:=by simpa [b6] using h
def jk (x:List aJ) (n:Nm):Option aJ:=x.find? fun t=>seq t.Name n
def zf (x:List aJ) (n:Nm):Nm:=match jk x n with
 | some t=>t.g9
 | none=>[]
def upN (x:List aJ):Nat→Nm→Nm
 | 0,a=>a
 | m+1,a=>cond (seq a []) [] (upN x m (zf x a))
theorem agb (x:List aJ):∀ m,upN x m []=[]
 | 0=>rfl
 | _+1=>rfl
def u6 (x:List aJ) (m:Nat) (a:Nm):Bool:=seq (upN x m a) []
def known (x:List aJ) (n:Nm):Bool:=seq n []||(jk x n).isSome
def wj (x:List aJ) (q:Option aJ) (t:aJ):Bool:=AD (q.map (·.Name)) t.Name&&known x t.g9
def HV (x:List aJ):Bool:=b6 (x.length:Int) 12&&(chain (wj x) none x&&x.all fun t=>u6 x 4 t.g9)
theorem Mn {k:Nat} {x:List aJ} {n:Nm} (hk:4194304≤k) (hx:x.length≤1048576):np k x n=some (jk x n).isSome:=by
 unfold np;simp only [share];have h:=JE (R:=Option Bool) (x:=x) (p:=fun t=>seq t.Name n) (B:=0) (l:=fun k i=>iter (ts:=yQ) (R:=Bool) k (rG (some false)) x n i) (E:=some false) (O:=fun _=>some true)
  (fun k=>by simp only [iter,rG,cg,cond_false]<;>rfl)
  (fun k i hi _=>by simp only [iter,rG,cd hi,bO hi,cond_true,bN,bP hi,bQ hx hi]<;>rfl) k (by omega)
 refine h.trans ?_;unfold jk;cases x.find? fun t=>seq t.Name n<;>rfl
theorem RW {k:Nat} {x:List aJ} {n:Nm} (hk:4194304≤k) (hx:x.length≤1048576):uT k x n=some (zf x n):=by
 unfold uT;simp only [share];have h:=JE (R:=Option (List UInt8)) (x:=x) (p:=fun t=>seq t.Name n) (B:=0) (l:=fun k i=>iter (ts:=yR) (R:=List UInt8) k (rH (some [])) x n i) (E:=some []) (O:=fun t=>some t.g9)
  (fun k=>by simp only [iter,rH,cg,cond_false]<;>rfl)
  (fun k i hi _=>by simp only [iter,rH,cd hi,bO hi,cond_true,bN,bP hi,bQ hx hi]<;>rfl) k (by omega)
 refine h.trans ?_;unfold zf jk;cases x.find? fun t=>seq t.Name n<;>rfl
theorem aaZ {x:List aJ} {J:List aJ→Int→Nm→Option Bool} {i:Int} (hx:x.length≤1048576):∀ (m j k:Nat) (a:Nm),j+m=5→4194304+m+1≤k→
  iter (ts:=qB) (R:=Bool) k (ja J) x i a (j:Int)=J x i (upN x m a):=by
 intro m
 induction m with
 | zero=>
  intro j k a h hk;obtain rfl:j=5:=by omega
  obtain ⟨k,rfl⟩:∃ q,k=q+1:=⟨k-1,by omega⟩;simp only [iter,ja,RU (show ¬ ((5:Nat):Int)≤(4:Int) by omega),cond_false]<;>rfl
 | succ m ih=>
  intro j k a h hk;obtain ⟨k,rfl⟩:∃ q,k=q+1:=⟨k-1,by omega⟩;simp only [iter,ja,FW (show ((j:Nat):Int)≤4 by omega),cond_true,upN,RW (show 4194304≤k by omega) hx,Option.bind_some];cases h1:seq a [] with
  | true=>rw [cC.1 h1];rfl
  | false=>
   simp only [Bool.not_false,cond_true,cond_false,bQ (n:=5) (by omega) (show j < 5 by omega)];exact ih (j+1) k _ (by omega) (by omega)
theorem Mo {k:Nat} {x:List aJ} (hk:4194304*3≤k) (hx:k_ aJ.sd x):kI k x=some (b6 (x.length:Int) 12&&(chain (wj x) none x&&x.all fun t=>u6 x 5 t.Name)):=by
 unfold kI;have h:=fo (R:=Option Bool) (x:=x) (p:=fun o t=>wj x o t&&u6 x 5 t.Name) (B:=4194304*2) (l:=fun k i=>iter (ts:=eG) (R:=Bool) k (dI (some true)) x i) (E:=some true) (O:=some false)
  (fun k=>by simp only [iter,dI,cg,cond_false]<;>rfl)
  (fun k i hi hb=>by
   have hti:=hx.2 _ (dB hi);simp only [iter,dI,share,cd hi,bO hi,cond_true,bN,bP hi,ea (show 4194304≤k by omega) hti.1,Mn (show 4194304≤k by omega) hx.1,Option.bind_some,wj,AD,known];have up:=aaZ (J:=fun agr ags agt=>cond (!seq agt ([]:List UInt8)) (some false) (iter (ts:=eG) (R:=Bool) k (dI (some true)) agr (aN .i64 ags (1:Int)))) (i:=(i:Int)) hx.1 5 0 k x[i].Name (by omega) (by omega);rw [bQ hx.1 hi] at up;have up':=up.trans (show cond (!u6 x 5 x[i].Name) (some false) (iter (ts:=eG) (R:=Bool) k (dI (some true)) x ((i+1:Nat):Int))=cond (u6 x 5 x[i].Name) (iter (ts:=eG) (R:=Bool) k (dI (some true)) x ((i+1:Nat):Int)) (some false) by cases u6 x 5 x[i].Name<;>rfl);cases cw x[i].Name with
   | false=>rfl
   | true=>
    rcases Nat.eq_zero_or_pos i with rfl | h0
    ·simp only [r_,lR];cases seq x[0].g9 [] with
     | true=>exact up'
     | false=>
      cases (jk x x[0].g9).isSome with
      | false=>rfl
      | true=>exact up'
    ·have da:i-1 < x.length:=by omega
     simp only [ze h0,qe h0 (by have:=hx.1;omega),bO da,cond_true,bN,bP da,lS h0 hi,Option.map_some];cases slt x[i-1].Name x[i].Name with
     | false=>rfl
     | true=>
      cases seq x[i].g9 [] with
      | true=>exact up'
      | false=>
       cases (jk x x[i].g9).isSome with
       | false=>rfl
       | true=>exact up') k (by have:=hx.1;omega)
 rw [qK,tx] at h;simp only [share,cO];cases b6 (x.length:Int) 12 with
 | false=>rfl
 | true=>exact h.trans (by cases chain (wj x) none x&&x.all fun t=>u6 x 5 t.Name<;>rfl)
theorem Uc {x:List aJ} {o:Option aJ} {y:List aJ}:chain (wj x) o y=(chain AD (o.map (·.Name)) (y.map (·.Name))&&y.all fun t=>known x t.g9):=by
 unfold wj;rw [qK,tx,JA]
theorem W9 {x:List aJ} (h:chain (wj x) none x=true) {t:aJ} (ht:t∈x):jk x t.Name=some t:=by
 rw [Uc] at h;have zg:=(JF (Bool.and_eq_true_iff.1 h).1).1;clear h;unfold jk
 induction x with
 | nil=>cases ht
 | cons a r ih=>
  simp only [List.map_cons,List.nodup_cons] at zg;rw [List.find?_cons];rcases List.mem_cons.1 ht with e | e
  ·subst e;rw [show seq t.Name t.Name=true from cC.2 rfl]
  ·cases ha:seq a.Name t.Name with
   | true=>
    have hm:t.Name∈r.map (·.Name):=List.mem_map_of_mem e;rw [← cC.1 ha] at hm;exact absurd hm zg.1
   | false=>exact ih e zg.2
theorem Mp {x:List aJ}:∀ {y:List aJ} {o:Option aJ},chain (wj x) o y=true→∀ t,t∈y→cw t.Name=true∧known x t.g9=true
 | [],_,_,_,h=>by cases h
 | a::r,o,h,t,ht=>by
  simp only [chain,Bool.and_eq_true] at h;rcases List.mem_cons.1 ht with e | e
  ·subst e;simp only [wj,AD,Bool.and_eq_true] at h;exact ⟨h.1.1.1,h.1.2⟩
  ·exact Mp h.2 t e
theorem Ud (x:List aJ):(chain (wj x) none x&&x.all fun t=>u6 x 5 t.Name)=(chain (wj x) none x&&x.all fun t=>u6 x 4 t.g9):=by
 cases h:chain (wj x) none x with
 | false=>rfl
 | true=>
  rw [Bool.true_and,Bool.true_and];rw [Bool.eq_iff_iff,List.all_eq_true,List.all_eq_true];have key:∀ t,t∈x→u6 x 5 t.Name=u6 x 4 t.g9:=fun t ht=>by
   unfold u6;have oV:seq t.Name []=false:=by
    cases e:seq t.Name [] with
    | false=>rfl
    | true=>have:=Pa e;rw [(Mp h t ht).1] at this;cases this
   rw [upN,oV,cond_false,zf,W9 h ht]
  exact ⟨fun h t ht=>by rw [← key t ht];exact h t ht,fun h t ht=>by rw [key t ht];exact h t ht⟩
theorem Oy {k:Nat} {x:List aJ} (hk:4194304*3≤k) (hx:k_ aJ.sd x):kI k x=some (HV x):=by
 rw [Mo hk hx,Ud];rfl
theorem AE {k:Nat} {x:List aJ} {n:Nm} (hk:4194304≤k) (hx:x.length≤1048576):iK k x n=some (tz (fun t=>seq t.Name n) x 0):=by
 unfold iK;simp only [share];exact mr (x:=x) (p:=fun t=>seq t.Name n) (l:=fun k i=>iter (ts:=yY) (R:=Int) k (rW (some (-1))) n x (x.length:Int) i)
  (fun k=>by simp only [iter,rW,cg,cond_false]<;>rfl)
  (fun k i hi=>by simp only [iter,rW,cd hi,bO hi,cond_true,bN,bP hi,bQ hx hi]<;>rfl) k (by omega)
theorem aa0 {x:List aJ} {J:List aJ→List aJ→Int→Int→Option Bool} {c d:Int} (hx:x.length≤1048576) (Yy:∀ t,t∈x→known x t.g9=true):∀ (m j k:Nat) (a:Nm),j+m=4→4194304+m+1≤k→known x a=true→
  iter (ts:=qF) (R:=Bool) k (jg J) x (j:Int) a x c d=cond (u6 x m a) (J x x c d) (some false):=by
 intro m
 induction m with
 | zero=>
  intro j k a h hk ha;obtain rfl:j=4:=by omega
  obtain ⟨k,rfl⟩:∃ q,k=q+1:=⟨k-1,by omega⟩;simp only [iter,jg,u6,upN,show bM 4 (aN .i64 ((4:Nat):Int) 1)=true from rfl,cond_true];cases seq a []<;>rfl
 | succ m ih=>
  intro j k a h hk ha;obtain ⟨k,rfl⟩:∃ q,k=q+1:=⟨k-1,by omega⟩;simp only [iter,jg,u6,upN,bQ (n:=4) (by omega) (show j < 4 by omega),e9 (show ¬ (4:Int) < ((j+1:Nat):Int) by omega),cond_false,AE (show 4194304≤k by omega) hx,Option.bind_some];cases h1:seq a [] with
  | true=>rfl
  | false=>
   simp only [known,h1,Bool.false_or,jk] at ha;rcases dG (fun t:aJ=>seq t.Name a) x with ⟨k1,k2⟩ | ⟨q,hq,k1,k2,_⟩
   ·rw [k2] at ha;cases ha
   ·rw [k1,bO hq,bP hq];simp only [Bool.not_false,cond_true,cond_false,bN,zf,jk,k2];exact ih (j+1) k _ (by omega) (by omega) (Yy _ (dB hq))
theorem Oz {k:Nat} {x:List aJ} (hk:4194304*3≤k) (hx:k_ aJ.sd x):od k x=some (HV x):=by
 unfold od HV;have h4:=fun J:List aJ→Option Bool=>fo (R:=Option Bool) (x:=x) (p:=wj x) (B:=4194304*2) (l:=fun k i=>iter (ts:=rX) (R:=Bool) k (jZ J) x x (x.length:Int) i) (E:=J x) (O:=some false)
  (fun k=>by simp only [iter,jZ,cg,cond_false]<;>rfl)
  (fun k i hi hb=>by
   have hti:=hx.2 _ (dB hi);simp only [iter,jZ,share,cd hi,bO hi,cond_true,bN,bP hi,fP (show 4194304≤k by omega) hti.1,AE (show 4194304≤k by omega) hx.1,Option.bind_some,wj,AD,known,jk];rw [bQ hx.1 hi];have ep:bM (tz (fun t:aJ=>seq t.Name x[i].g9) x 0) 0=!(x.find? fun t=>seq t.Name x[i].g9).isSome:=by
    rcases dG (fun t:aJ=>seq t.Name x[i].g9) x with ⟨k1,k2⟩ | ⟨q,hq,k1,k2,_⟩
    ·rw [k1,k2];rfl
    ·rw [k1,k2,e9 (by omega)];rfl
   rw [ep];cases cw x[i].Name with
   | false=>rfl
   | true=>
    rcases Nat.eq_zero_or_pos i with rfl | h0
    ·simp only [r_,lR];cases seq x[0].g9 []<;>cases (x.find? fun t=>seq t.Name x[0].g9).isSome<;>rfl
    ·have da:i-1 < x.length:=by omega
     simp only [ze h0,qe h0 (by have:=hx.1;omega),bO da,cond_true,bN,bP da,lS h0 hi,Option.map_some];cases slt x[i-1].Name x[i].Name<;>cases seq x[i].g9 []<;>cases (x.find? fun t=>seq t.Name x[i].g9).isSome<;>rfl) k (by have:=hx.1;omega)
 simp only [share,cO];cases b6 (x.length:Int) 12 with
 | false=>rfl
 | true=>
  refine (h4 _).trans ?_;cases hc:chain (wj x) none x with
  | false=>rfl
  | true=>
   have Yy:∀ t,t∈x→known x t.g9=true:=fun t ht=>(Mp hc t ht).2;have h10:=gI (R:=Option Bool) (x:=x) (p:=fun t=>u6 x 4 t.g9) (B:=4194304*2) (l:=fun k i=>iter (ts:=qG) (R:=Bool) k (jh (some true)) x x (x.length:Int) i) (E:=some true) (O:=some false)
    (fun k=>by simp only [iter,jh,cg,cond_false]<;>rfl)
    (fun k i hi hb=>by
     simp only [iter,jh,share,cd hi,bO hi,cond_true,bN,bP hi];refine (aa0 hx.1 Yy 4 0 k _ (by omega) (by omega) (Yy _ (dB hi))).trans ?_;rw [bQ hx.1 hi]) k (by have:=hx.1;omega)
   exact h10.trans (by cases x.all fun t=>u6 x 4 t.g9<;>rfl)
theorem ahZ (c x:Bool):cond c (some x) (some false)=some (c&&x):=by cases c<;>rfl
def FX (o:Option Int) (v:Int):Bool:=(b6 1 v&&b6 v 5)&&(match o with | none=>true | some p=>bM p v)
def Br (n:Nm):Bool:=seq n []||cw n
def zD (r:bG):Bool:=!bI (r.b_.length:Int) 0&&(b6 (r.cP.length:Int) 16&&(Br r.Kind&&(Br r.aY&&(chain FX none r.b_&&r.cP.all nb))))
theorem Qm {k:Nat} {r:bG} (hk:4194304*2≤k) (hr:r.sd):jt k r=some (zD r):=by
 obtain ⟨h1,h2,h3,h4⟩:=hr;unfold jt;have h9:=gI (R:=Option Bool) (x:=r.cP) (p:=nb) (B:=0) (l:=fun k i=>iter (ts:=oN) (R:=Bool) k (kJ (some true)) r i) (E:=some true) (O:=some false)
  (fun k=>by simp only [iter,kJ,cg,cond_false]<;>rfl)
  (fun k i hi _=>by
   simp only [iter,kJ,cd hi,bO hi,cond_true,bN,xR hi,RT,Option.bind_some,bQ h4 hi];cases nb r.cP[i]<;>rfl) k (by simp only [dd] at h4;omega)
 have h5:=fun J:bG→Option Bool=>fo (R:=Option Bool) (x:=r.b_) (p:=FX) (B:=0) (l:=fun k i=>iter (ts:=oO) (R:=Bool) k (kK J) r i) (E:=J r) (O:=some false)
  (fun k=>by simp only [iter,kK,cg,cond_false]<;>rfl)
  (fun k i hi _=>by
   simp only [iter,kK,share,cd hi,bO hi,cond_true,bN,bP hi,Le,Option.bind_some,bQ h1.1 hi,FX];rcases Nat.eq_zero_or_pos i with rfl | h0
   ·simp only [r_,lR];cases b6 1 r.b_[0]&&b6 r.b_[0] 5<;>rfl
   ·have da:i-1 < r.b_.length:=by omega
    simp only [ze h0,qe h0 (by have:=h1.1;omega),bO da,cond_true,bN,bP da,lS h0 hi,cO];cases b6 1 r.b_[i]&&b6 r.b_[i] 5<;>cases b6 r.b_[i] r.b_[i-1]<;>rfl) k (by have:=h1.1;omega)
 have go:cond false (some false) (iter (ts:=oO) (R:=Bool) k (kK fun v38=>iter (ts:=oN) (R:=Bool) k (kJ (some true)) v38 (0:Int)) r (0:Int))=some (chain FX none r.b_&&r.cP.all nb):=by
  refine (h5 _).trans ?_;cases chain FX none r.b_ with
  | false=>rfl
  | true=>exact h9.trans (by cases r.cP.all nb<;>rfl)
 simp only [share,ea (show 4194304≤k by omega) h2,ea (show 4194304≤k by omega) h3,Option.bind_some,zD,Br,cO];cases bI (r.b_.length:Int) 0 with
 | true=>rfl
 | false=>
  cases b6 (r.cP.length:Int) 16 with
  | false=>rfl
  | true=>
   cases seq r.Kind []<;>cases cw r.Kind<;>cases seq r.aY []<;>cases cw r.aY<;>first | rfl | exact go
theorem Qn {k:Nat} {r:bG} (hk:4194304*2≤k) (hr:r.sd):fk k r=some (zD r):=by
 obtain ⟨h1,h2,h3,h4⟩:=hr;unfold fk;have h5:=fo (R:=Option Bool) (x:=r.b_) (p:=FX) (B:=0) (l:=fun k i=>iter (ts:=lK) (R:=Bool) k (gH (some true)) r r.b_ (r.b_.length:Int) i) (E:=some true) (O:=some false)
  (fun k=>by simp only [iter,gH,cg,cond_false]<;>rfl)
  (fun k i hi _=>by
   simp only [iter,gH,share,cd hi,bO hi,cond_true,bN,bP hi,Option.bind_some,bQ h1.1 hi,FX];rcases Nat.eq_zero_or_pos i with rfl | h0
   ·simp only [r_,lR];rw [cO r.b_[0],cO 5];cases b6 1 r.b_[0]<;>cases b6 r.b_[0] 5<;>rfl
   ·have da:i-1 < r.b_.length:=by omega
    simp only [ze h0,qe h0 (by have:=h1.1;omega),bO da,cond_true,bN,bP da,lS h0 hi];rw [cO r.b_[i],cO 5,cO r.b_[i-1]];cases b6 1 r.b_[i]<;>cases b6 r.b_[i] 5<;>cases b6 r.b_[i] r.b_[i-1]<;>rfl) k (by have:=h1.1;omega)
 have go:iter (ts:=lK) (R:=Bool) k (gH (some true)) r r.b_ (r.b_.length:Int) (0:Int)=some (chain FX none r.b_):=h5.trans (by cases chain FX none r.b_<;>rfl);simp only [share,fP (show 4194304≤k by omega) h2,fP (show 4194304≤k by omega) h3,Kz (show 4194304≤k by omega) h4,Option.bind_some,zD,Br,cO];cases bI (r.b_.length:Int) 0 with
 | true=>rfl
 | false=>
  cases b6 (r.cP.length:Int) 16<;>cases seq r.Kind []<;>cases cw r.Kind<;>cases seq r.aY []<;>cases cw r.aY<;>cases r.cP.all nb<;>first | rfl | (refine Eq.trans ?_ (show some (chain FX none r.b_&&false)=_ from rfl);rw [Bool.and_false];rfl) | (refine Eq.trans go ?_;simp)
def val:List UInt8→Int→Option Int
 | [],a=>some a
 | c::r,a=>if 48≤bt c∧bt c≤57 then val r (a*10+(bt c-48)) else none
theorem Mq:∀ {s:List UInt8} {a v:Int},0≤a→val s a=some v→0≤v
 | [],a,v,h,e=>by simp only [val] at e;cases e;exact h
 | c::r,a,v,h,e=>by
  simp only [val] at e;split at e
  ·exact Mq (by omega) e
  ·cases e
theorem YV:∀ {s:List UInt8} {a v:Int},0≤a→val s a=some v→v < (a+1)*10 ^ s.length
 | [],a,v,h,e=>by simp only [val] at e;cases e;simp only [List.length_nil,Int.pow_zero];omega
 | c::r,a,v,h,e=>by
  simp only [val] at e;split at e
  ·have:=YV (by omega) e;refine Int.lt_of_lt_of_le this ?_;rw [List.length_cons,Int.pow_succ,Int.mul_comm (10 ^ r.length) 10,← Int.mul_assoc];exact Int.mul_le_mul_of_nonneg_right (by omega) (Int.pow_nonneg (by omega))
  ·cases e
def num (s:List UInt8):Option Int:=if 1≤s.length∧s.length≤7∧(1 < s.length→bt (s.getD 0 0)≠48) then val s 0 else none
theorem Ey {s:List UInt8} {v:Int} (h:num s=some v):0≤v∧v < 10000000:=by
 unfold num at h;split at h
 ·rename_i hc;have h1:=Mq (by omega) h;have h2:=YV (by omega) h;have h3:(10:Int) ^ s.length≤10 ^ 7:=by
   have:(10:Nat) ^ s.length≤10 ^ 7:=Nat.pow_le_pow_right (by omega) hc.2.1
   exact_mod_cast this
  omega
 ·cases h
def vOr {R:Type} (J:Int→Option R) (r:R):Option Int→Option R
 | some v=>J v
 | none=>some r
theorem RX {s:List UInt8} {i:Nat} {a:Int} (hi:i < s.length):val (s.drop i) a=if 48≤bt s[i]∧bt s[i]≤57 then val (s.drop (i+1)) (a*10+(bt s[i]-48)) else none:=by
 rw [List.drop_eq_getElem_cons hi];rfl
theorem Mr {s:List UInt8} {J:Int→Option Int}:∀ (m i k:Nat) (a:Int),i+m=s.length→m < k→s.length≤7→0≤a→a < 10 ^ i→
  iter (ts:=vW) (R:=Int) k (nZ J) s a (i:Int)=vOr J (-1) (val (s.drop i) a)
 | _,_,0,_,_,h,_,_,_=>by omega
 | 0,i,k+1,a,h,_,h7,h0,ha=>by
  obtain rfl:i=s.length:=by omega
  simp only [iter,nZ,cg,cond_false,List.drop_length,val,vOr]<;>rfl
 | m+1,i,k+1,a,h,hk,h7,h0,ha=>by
  have hi:i < s.length:=by omega
  have hr:=Mk s[i];simp only [iter,nZ,share,cd hi,bO hi,cond_true,bN,xR hi];rw [RX hi];by_cases c1:bt s[i] < 48
  ·rw [kZ c1,if_neg (by omega)];rfl
  ·by_cases c2:57 < bt s[i]
   ·rw [e9 c1,kZ c2,if_neg (by omega)];rfl
   ·rw [e9 c1,e9 c2,if_pos (by omega)];have agu:(10:Int) ^ i≤10 ^ 7:=by
     have:(10:Nat) ^ i≤10 ^ 7:=Nat.pow_le_pow_right (by omega) (by omega)
     exact_mod_cast this
    have e1:W6 .i64 a 10=a*10:=pZ (by omega) (by omega);have e2:yE .i64 (bt s[i])=bt s[i]:=pZ (by omega) (by omega);simp only [cond_false,e1,e2];rw [s9 (by omega) (by omega),VH (by omega) (by omega),bQ (n:=s.length) (by omega) hi,show a*10+bt s[i]-48=a*10+(bt s[i]-48) by omega];exact Mr m (i+1) k _ (by omega) (by omega) h7 (by omega) (by rw [Int.pow_succ];omega)
theorem Pe {s:List UInt8} {J:Int→Option (Int×Bool)}:∀ (m i k:Nat) (a:Int),i+m=s.length→m < k→s.length≤7→0≤a→a < 10 ^ i→
  iter (ts:=xy) (R:=Int×Bool) k (pL J) s a (s.length:Int) (i:Int)=vOr J (0,false) (val (s.drop i) a)
 | _,_,0,_,_,h,_,_,_=>by omega
 | 0,i,k+1,a,h,_,h7,h0,ha=>by
  obtain rfl:i=s.length:=by omega
  simp only [iter,pL,cg,cond_false,List.drop_length,val,vOr]<;>rfl
 | m+1,i,k+1,a,h,hk,h7,h0,ha=>by
  have hi:i < s.length:=by omega
  have hr:=Mk s[i];simp only [iter,pL,share,cd hi,bO hi,cond_true,bN,xR hi];rw [RX hi];by_cases c1:bt s[i] < 48
  ·rw [kZ c1,if_neg (by omega)];rfl
  ·by_cases c2:57 < bt s[i]
   ·rw [e9 c1,kZ c2,if_neg (by omega)];rfl
   ·rw [e9 c1,e9 c2,if_pos (by omega)];have agu:(10:Int) ^ i≤10 ^ 7:=by
     have:(10:Nat) ^ i≤10 ^ 7:=Nat.pow_le_pow_right (by omega) (by omega)
     exact_mod_cast this
    have e1:W6 .i64 a 10=a*10:=pZ (by omega) (by omega);have e0:bS .u8 (bt s[i]) 48=bt s[i]-48:=wrap_u8 (by omega) (by omega);have e2:yE .i64 (bt s[i]-48)=bt s[i]-48:=pZ (by omega) (by omega);simp only [cond_false,e0,e1,e2];rw [s9 (by omega) (by omega),bQ (n:=s.length) (by omega) hi];exact Pe m (i+1) k _ (by omega) (by omega) h7 (by omega) (by rw [Int.pow_succ];omega)
theorem Ms {k:Nat} (s:List UInt8) (hk:4194304≤k):o_ k s=some ((num s).getD (-1)):=by
 unfold o_;simp only [share,Le,Option.bind_some];by_cases h1:1≤s.length
 ·by_cases h7:s.length≤7
  ·have loop:=Mr (s:=s) (J:=fun v=>some v) s.length 0 k 0 (by omega) (by omega) h7 (by omega) (by decide);rw [List.drop_zero,Int.natCast_zero] at loop;rw [FW (by omega),FW (by omega)];simp only [Bool.and_true,Bool.not_true,cond_false,loop];by_cases h2:1 < s.length
   ·rw [kZ (by omega),HT (by omega) (by omega)];have e0:zZ s 0=bt (s.getD 0 0):=rfl;simp only [cond_true,bN,e0];by_cases h3:bt (s.getD 0 0)=48
    ·rw [h3,num,if_neg (fun h=>h.2.2 h2 h3)];rfl
    ·rw [show bI (bt (s.getD 0 0)) 48=false by simpa [bI] using h3,num,if_pos ⟨h1,h7,fun _=>h3⟩];cases val s 0<;>rfl
   ·rw [e9 (by omega),num,if_pos ⟨h1,h7,fun h=>absurd h h2⟩];cases val s 0<;>rfl
  ·rw [FW (by omega),RU (by omega),num,if_neg (by omega)];rfl
 ·rw [RU (by omega),num,if_neg (by omega)];rfl
theorem Pf {k:Nat} (s:List UInt8) (hk:4194304≤k):rP k s=some (match num s with | some v=>(v,true) | none=>(0,false)):=by
 unfold rP;simp only [share];by_cases h1:s.length < 1
 ·rw [kZ (by omega),num,if_neg (by omega)];rfl
 ·rw [e9 (by omega)];by_cases h7:7 < s.length
  ·rw [kZ (by omega),num,if_neg (by omega)];rfl
  ·have loop:=Pe (s:=s) (J:=fun v=>some (v,true)) s.length 0 k 0 (by omega) (by omega) (by omega) (by omega) (by decide);rw [List.drop_zero,Int.natCast_zero] at loop;have e0:zZ s 0=bt (s.getD 0 0):=rfl;rw [e9 (by omega),HT (by omega) (by omega)];simp only [cond_false,bN,e0,loop];by_cases h3:bt (s.getD 0 0)=48
   ·rw [show bI (bt (s.getD 0 0)) 48=true by simpa [bI] using h3];by_cases h2:1 < s.length
    ·rw [kZ (by omega),num,if_neg (fun h=>h.2.2 h2 h3)];rfl
    ·rw [e9 (by omega),num,if_pos ⟨by omega,by omega,fun h=>absurd h h2⟩];cases val s 0<;>rfl
   ·rw [show bI (bt (s.getD 0 0)) 48=false by simpa [bI] using h3,num,if_pos ⟨by omega,by omega,fun _=>h3⟩];cases val s 0<;>rfl
theorem Qo {k:Nat} {xs:List (List UInt8)} {s:List UInt8} (hk:4194304≤k) (hx:xs.length≤1048576):nj k xs s=some (xs.any fun y=>seq y s):=by
 unfold nj;have h:=HU (x:=xs) (p:=fun y=>seq y s) (B:=0) (l:=fun k i=>iter (ts:=z0) (R:=Bool) k (tV (some false)) xs s i) (E:=some false) (O:=some true)
  (fun k=>by simp only [iter,tV,cg,cond_false]<;>rfl)
  (fun k i hi _=>by simp only [iter,tV,cd hi,bO hi,cond_true,bN,bP hi,bQ hx hi]<;>rfl) k (by omega)
 simp only [share];exact h.trans (by cases xs.any fun y=>seq y s<;>rfl)
theorem zh {k:Nat} {f:aB} {s:List UInt8} (hk:4194304≤k) (hx:f.Words.length≤1048576):jW k ⟨f⟩ s=some (f.Words.any fun y=>seq y s):=by
 unfold jW;have h:=HU (x:=f.Words) (p:=fun y=>seq y s) (B:=0) (l:=fun k i=>iter (ts:=oJ) (R:=Bool) k (gW (some false)) s f.Words (f.Words.length:Int) i) (E:=some false) (O:=some true)
  (fun k=>by simp only [iter,gW,cg,cond_false]<;>rfl)
  (fun k i hi _=>by simp only [iter,gW,cd hi,bO hi,cond_true,bN,bP hi,bQ hx hi]<;>rfl) k (by omega)
 simp only [share];exact h.trans (by cases f.Words.any fun y=>seq y s<;>rfl)
def seen (c:UInt8):Bool:=b6 33 (bt c)&&b6 (bt c) 126
def Qp (f:aB) (s:List UInt8):Bool:=(b6 f.bR (s.length:Int)&&b6 (s.length:Int) f.bU)&&s.all seen
theorem zi {k:Nat} {f:aB} {s:List UInt8} (hk:4194304≤k) (hs:dd s):jV k ⟨f⟩ s=some (Qp f s):=by
 unfold jV Qp;have h:=gI (x:=s) (p:=seen) (B:=0) (l:=fun k i=>iter (ts:=oI) (R:=Bool) k (gV (some true)) s (s.length:Int) i) (E:=some true) (O:=some false)
  (fun k=>by simp only [iter,gV,cg,cond_false]<;>rfl)
  (fun k i hi _=>by
   simp only [iter,gV,share,cd hi,bO hi,cond_true,bN,xR hi,bQ hs hi,seen,cO (bt s[i]),cO 126];cases b6 33 (bt s[i])<;>cases b6 (bt s[i]) 126<;>rfl) k (by have:s.length≤1048576:=hs;omega)
 simp only [share,h,cO];cases b6 f.bR (s.length:Int)<;>cases b6 (s.length:Int) f.bU<;>cases s.all seen<;>rfl
def inR (f:aB):Option Int→Bool
 | some v=>b6 f.bR v&&b6 v f.bU
 | none=>false
def fits (f:aB) (s:List UInt8):Bool:=cond (bI f.Kind 1) (inR f (num s)) (cond (bI f.Kind 2) (!seq s []&&f.Words.any fun y=>seq y s) (cond (bI f.Kind 3) (!seq s []&&Qp f s) (cond (bI f.Kind 4) (cw s) false)))
theorem YW (c:UInt8):yE .i64 (bt c)=bt c:=by have:=Mk c;exact pZ (by omega) (by omega)
theorem GH {k:Nat} {f:aB} {s:List UInt8} (hk:4194304≤k) (hf:f.Words.length≤1048576) (hs:dd s):mn k f s=some (fits f s):=by
 unfold mn fits;have h:=fun J=>gI (x:=s) (p:=seen) (B:=0) (l:=fun k i=>iter (ts:=vX) (R:=Bool) k (n4 J) s f i) (E:=J s f) (O:=some false)
  (fun k=>by simp only [iter,n4,cg,cond_false]<;>rfl)
  (fun k i hi _=>by
   simp only [iter,n4,cd hi,bO hi,cond_true,bN,xR hi,bQ hs hi,Le,Option.bind_some,YW,seen];cases b6 33 (bt s[i])<;>cases b6 (bt s[i]) 126<;>rfl) k (by have:s.length≤1048576:=hs;omega)
 simp only [share,h,Ms s hk,Qo hk hf,ea hk hs,Le,Option.bind_some];cases bI f.Kind 1 with
 | true=>
  cases hn:num s with
  | none=>rfl
  | some v=>
   have:=Ey hn;simp only [Option.getD_some,cond_true,FW this.1,inR]
 | false=>
  cases bI f.Kind 2 with
  | true=>cases seq s []<;>rfl
  | false=>
   cases bI f.Kind 3 with
   | true=>
    simp only [cond_true,cond_false,Qp];cases s.all seen<;>cases seq s []<;>cases b6 f.bR (s.length:Int)<;>cases b6 (s.length:Int) f.bU<;>rfl
   | false=>cases bI f.Kind 4<;>rfl
theorem ac_ {s:List UInt8} (h:seq s []=true):num s=none:=by
 have e:s=[]:=by simpa [seq] using h
 subst e;rfl
theorem uk {k:Nat} {f:aB} {s:List UInt8} (hk:4194304≤k):iu k ⟨f⟩ s=some (inR f (num s)):=by
 unfold iu;simp only [Pf s hk,Option.bind_some];cases num s with
 | none=>rfl
 | some v=>simp only [inR,cond_true];cases b6 f.bR v<;>rfl
theorem tA {k:Nat} {f:aB} {s:List UInt8} (hk:4194304≤k) (hf:f.Words.length≤1048576) (hs:dd s):fB k f s=some (fits f s):=by
 unfold fB uW uh ug uf ue fits oS;cases bI f.Kind 1 with
 | true=>
  simp only [cond_true,Option.bind_some,xA,uk hk,zh hk hf,zi hk hs,fP hk hs];cases he:seq s [] with
  | true=>rw [ac_ he];rfl
  | false=>rfl
 | false=>
  simp only [cond_false];cases bI f.Kind 2 with
  | true=>simp only [cond_true,Option.bind_some,xA,uk hk,zh hk hf,zi hk hs,fP hk hs];cases seq s []<;>rfl
  | false=>
   simp only [cond_false];cases bI f.Kind 3 with
   | true=>simp only [cond_true,Option.bind_some,xA,uk hk,zh hk hf,zi hk hs,fP hk hs];cases seq s []<;>rfl
   | false=>
    simp only [cond_false];cases bI f.Kind 4 with
    | true=>
     simp only [cond_true,Option.bind_some,xA,uk hk,zh hk hf,zi hk hs,fP hk hs];cases he:seq s [] with
     | true=>rw [Pa he];rfl
     | false=>rfl
    | false=>rfl
theorem FY {k:Nat} {xs:List (List UInt8)} (hk:8388608≤k) (hx:k_ dd xs):kH k xs=some (qf xs):=by
 unfold kH;have h:=fo (x:=xs) (p:=AD) (B:=4194304) (l:=fun k i=>iter (ts:=rC) (R:=Bool) k (jR (some true)) xs i) (E:=some true) (O:=some false)
  (fun k=>by simp only [iter,jR,cg,cond_false]<;>rfl)
  (fun k i hi hb=>by
   simp only [iter,jR,share,cd hi,bO hi,cond_true,bN,bP hi,ea hb (hx.2 _ (dB hi)),Option.bind_some,bQ hx.1 hi];rcases Nat.eq_zero_or_pos i with rfl | h0
   ·simp only [r_,lR,AD];cases cw xs[0]<;>rfl
   ·have da:i-1 < xs.length:=by omega
    simp only [ze h0,qe h0 (by have:=hx.1;omega),bO da,cond_true,bN,bP da,lS h0 hi,AD];cases cw xs[i]<;>cases slt xs[i-1] xs[i]<;>rfl) k (by have:=hx.1;omega)
 simp only [share];exact h.trans (by unfold qf;cases chain AD none xs<;>rfl)
theorem tB {k:Nat} {xs:List (List UInt8)} (hk:8388608≤k) (hx:k_ dd xs):eV k xs=some (qf xs):=by
 unfold eV;have h:=fo (x:=xs) (p:=AD) (B:=4194304) (l:=fun k i=>iter (ts:=oH) (R:=Bool) k (gU (some true)) xs xs (xs.length:Int) i) (E:=some true) (O:=some false)
  (fun k=>by simp only [iter,gU,cg,cond_false]<;>rfl)
  (fun k i hi hb=>by
   simp only [iter,gU,share,cd hi,bO hi,cond_true,bN,bP hi,fP hb (hx.2 _ (dB hi)),Option.bind_some,bQ hx.1 hi];rcases Nat.eq_zero_or_pos i with rfl | h0
   ·simp only [r_,lR,AD];cases cw xs[0]<;>rfl
   ·have da:i-1 < xs.length:=by omega
    simp only [ze h0,qe h0 (by have:=hx.1;omega),bO da,cond_true,bN,bP da,lS h0 hi,AD];cases cw xs[i]<;>cases slt xs[i-1] xs[i]<;>rfl) k (by have:=hx.1;omega)
 simp only [share];exact h.trans (by unfold qf;cases chain AD none xs<;>rfl)
def Qq (to:List UInt8):List aD→Nat→Int
 | [],_=>-1
 | s::r,i=>cond (seq s.Kind to) (i:Int) (Qq to r (i+1))
theorem RY (to:List UInt8):∀ (xs:List aD) (i:Nat),b6 0 (Qq to xs i)=xs.any fun s=>seq s.Kind to
 | [],i=>rfl
 | s::r,i=>by
  simp only [Qq,List.any_cons];cases seq s.Kind to with
  | true=>exact FW (by simp)
  | false=>exact RY to r (i+1)
theorem Pg {xs:List aD} {to:List UInt8} (hx:xs.length≤1048576):∀ m i k:Nat,i+m=xs.length→m < k→
  iter (ts:=xk) (R:=Int) k (pE (some (-1))) xs to (i:Int)=some (Qq to (xs.drop i) i)
 | _,_,0,_,h=>by omega
 | 0,i,k+1,h,_=>by
  obtain rfl:i=xs.length:=by omega
  simp only [iter,pE,cg,cond_false,List.drop_length,Qq]<;>rfl
 | m+1,i,k+1,h,hk=>by
  have hi:i < xs.length:=by omega
  have ih:=Pg (to:=to) hx m (i+1) k (by omega) (by omega);simp only [iter,pE,cd hi,bO hi,cond_true,bN,bP hi,bQ hx hi];rw [List.drop_eq_getElem_cons hi];simp only [Qq];cases seq xs[i].Kind to with
  | true=>rfl
  | false=>exact ih
theorem Ez {k:Nat} {xs:List aD} {to:List UInt8} (hk:4194304≤k) (hx:xs.length≤1048576):lu k xs to=some (Qq to xs 0):=by
 unfold lu;simp only [share];exact Pg hx xs.length 0 k (by omega) (by omega)
def kinds (xs:List aD):List (List UInt8):=xs.map (·.Kind)
theorem W_ (xs:List aD) (to:List UInt8):(kinds xs).any (fun k=>seq k to)=xs.any fun s=>seq s.Kind to:=by simp only [kinds,List.any_map];rfl
def bare (f:aB):Bool:=
 cond (bI f.Kind 1) (bI (f.Words.length:Int) 0&&(seq f.To []&&bI f.cB 0))
 (cond (bI f.Kind 2) (bI f.bR 0&&(bI f.bU 0&&(seq f.To []&&(bI f.cB 0&&seq f.bD []))))
 (cond (bI f.Kind 3) (bI (f.Words.length:Int) 0&&(seq f.To []&&(bI f.cB 0&&seq f.bD [])))
 (cond (bI f.Kind 4) (bI f.bR 0&&(bI f.bU 0&&(bI (f.Words.length:Int) 0&&seq f.bD []))) false)))
def sound (ks:List (List UInt8)) (f:aB):Bool:=
 cond (bI f.Kind 1) (b6 0 f.bR&&(b6 f.bR f.bU&&(b6 f.bU 1000000&&(seq f.bD []||cw f.bD))))
 (cond (bI f.Kind 2) (b6 1 (f.Words.length:Int)&&(b6 (f.Words.length:Int) 6&&qf f.Words))
 (cond (bI f.Kind 3) (b6 1 f.bR&&(b6 f.bR f.bU&&b6 f.bU 40))
 (cond (bI f.Kind 4) (ks.any (fun k=>seq k f.To)&&(b6 1 f.cB&&(b6 f.cB 3&&(seq f.Default []&&(!bI f.cB 2||!f.cV))))) false)))
def p0 (ks:List (List UInt8)) (f:aB):Bool:=cw f.Name&&(bare f&&((seq f.Default []||fits f f.Default)&&sound ks f))
theorem KA {m n c:Int} (h:bI m n=true) (hn:n≠c):bI m c=false:=by
 simp only [bI,beq_iff_eq] at h ⊢;rw [beq_eq_false_iff_ne,h];exact hn
theorem ada {f:aB} (h1:bI f.Kind 1=false) (h2:bI f.Kind 2=false) (h3:bI f.Kind 3=false) (h4:bI f.Kind 4=false):bare f=false:=by
 simp only [bare,h1,h2,h3,h4,cond_false]
theorem YX (n:Nat):bM 0 (n:Int)=!bI (n:Int) 0:=by
 by_cases h:n=0
 ·subst h;rfl
 ·rw [kZ (by omega),show bI (n:Int) 0=false by simp [bI];omega];rfl
theorem YY (k:Nat) (f:aB) (ks:List (List UInt8)):∃ b,yP k f=some b∧(b&&sound ks f)=(bare f&&sound ks f):=by
 unfold yP;simp only [share,YX];have key:∀ b:Bool,(sound ks f=true→b=bare f)→(b&&sound ks f)=(bare f&&sound ks f):=fun b h=>by
  cases hs:sound ks f with
  | true=>rw [h hs]
  | false=>simp
 cases h1:bI f.Kind 1 with
 | true=>
  have e2:=KA h1 (c:=2) (by decide);have e4:=KA h1 (c:=4) (by decide);refine ⟨bare f,?_,rfl⟩;simp only [e2,e4,bare,h1];cases bI (f.Words.length:Int) 0<;>cases seq f.To []<;>rfl
 | false=>
  cases h2:bI f.Kind 2 with
  | true=>
   have e3:=KA h2 (c:=3) (by decide);have e4:=KA h2 (c:=4) (by decide);refine ⟨bare f,?_,rfl⟩;simp only [e3,e4,bare,h1,h2];cases bI f.bR 0<;>cases bI f.bU 0<;>cases seq f.bD []<;>cases seq f.To []<;>cases bI f.cB 0<;>rfl
  | false=>
   cases h3:bI f.Kind 3 with
   | true=>
    have e4:=KA h3 (c:=4) (by decide);refine ⟨bare f,?_,rfl⟩;simp only [e4,bare,h1,h2,h3];cases seq f.bD []<;>cases bI (f.Words.length:Int) 0<;>cases seq f.To []<;>cases bI f.cB 0<;>rfl
   | false=>
    cases h4:bI f.Kind 4 with
    | true=>
     refine ⟨bare f,?_,rfl⟩;simp only [bare,h1,h2,h3,h4];cases bI f.bR 0<;>cases bI f.bU 0<;>cases seq f.bD []<;>cases bI (f.Words.length:Int) 0<;>rfl
    | false=>
     have hs:sound ks f=false:=by simp only [sound,h1,h2,h3,h4,cond_false]
     rw [hs];cases bI f.bR 0<;>cases bI f.bU 0<;>cases seq f.bD []<;>cases bI (f.Words.length:Int) 0<;>cases seq f.To []<;>cases bI f.cB 0<;>exact ⟨_,rfl,by simp⟩
theorem RZ {k:Nat} {xs:List aD} {f:aB} (hk:8388608≤k) (hx:xs.length≤1048576) (hf:f.sd):rD k xs f=some (p0 (kinds xs) f):=by
 obtain ⟨f1,-,-,-,f5,-,-,-,-,f10,f11⟩:=hf;obtain ⟨b,VJ,Ue⟩:=YY k f (kinds xs);unfold rD p0;simp only [share,Le,ea (show 4194304≤k by omega) f1,ea (show 4194304≤k by omega) f11,VJ,GH (show 4194304≤k by omega) f5.1 f10,FY hk f5,Ez (show 4194304≤k by omega) hx,Option.bind_some,RY,← W_];have e:(bare f&&((seq f.Default []||fits f f.Default)&&sound (kinds xs) f))=(b&&((seq f.Default []||fits f f.Default)&&sound (kinds xs) f)):=by
  cases hs:sound (kinds xs) f with
  | false=>simp
  | true=>rw [hs] at Ue;simp only [Bool.and_true] at Ue ⊢;rw [Ue]
 rw [e];have fin:∀ c:Bool,cond c (some false) (cond (bI f.Kind 1) (cond (b6 0 f.bR) (cond (b6 f.bR f.bU) (cond (b6 f.bU 1000000) (cond (seq f.bD []) (some true) (some (cw f.bD))) (some false)) (some false)) (some false))
   (cond (bI f.Kind 2) (cond (b6 1 (f.Words.length:Int)&&b6 (f.Words.length:Int) 6) (some (qf f.Words)) (some false))
   (cond (bI f.Kind 3) (cond (b6 1 f.bR) (cond (b6 f.bR f.bU) (some (b6 f.bU 40)) (some false)) (some false))
   (cond (bI f.Kind 4) (cond ((kinds xs).any fun k=>seq k f.To) (cond (b6 1 f.cB&&b6 f.cB 3) (cond (seq f.Default []) (cond (!bI f.cB 2) (some true) (some (!f.cV))) (some false)) (some false)) (some false)) (some false)))))=some (!c&&sound (kinds xs) f):=by
  intro c;cases c with
  | true=>rfl
  | false=>
   simp only [cond_false,Bool.not_false,Bool.true_and,sound];cases bI f.Kind 1 with
   | true=>cases b6 0 f.bR<;>cases b6 f.bR f.bU<;>cases b6 f.bU 1000000<;>cases seq f.bD []<;>rfl
   | false=>cases bI f.Kind 2 with
    | true=>cases b6 1 (f.Words.length:Int)<;>cases b6 (f.Words.length:Int) 6<;>rfl
    | false=>cases bI f.Kind 3 with
     | true=>cases b6 1 f.bR<;>cases b6 f.bR f.bU<;>rfl
     | false=>cases bI f.Kind 4 with
      | true=>cases (kinds xs).any fun k=>seq k f.To<;>cases b6 1 f.cB<;>cases b6 f.cB 3<;>cases seq f.Default []<;>cases bI f.cB 2<;>rfl
      | false=>rfl
 simp only [fin];cases cw f.Name<;>cases b<;>cases seq f.Default []<;>cases fits f f.Default<;>rfl
section
variable {α R:Type} {x:List α} {B:Nat}
def Uf (p:Nat→α→Bool):Nat→List α→Bool
 | _,[]=>true
 | i,a::r=>p i a&&Uf p (i+1) r
theorem Xa {p:Nat→α→Bool} {l:Nat→Int→R} {E O:R} (he:∀ k,l (k+1) (x.length:Int)=E)
  (h:∀ k i (hi:i < x.length),B≤k→l (k+1) (i:Int)=cond (p i x[i]) (l k ((i+1:Nat):Int)) O) (k:Nat) (hk:B+x.length+1≤k):l k 0=cond (Uf p 0 x) E O:=by
 have go:∀ m i k,i+m=x.length→B+m+1≤k→l k (i:Int)=cond (Uf p i (x.drop i)) E O:=by
  intro m
  induction m with
  | zero=>
   intro i k h1 h2;obtain rfl:i=x.length:=by omega
   obtain ⟨k,rfl⟩:∃ j,k=j+1:=⟨k-1,by omega⟩;simp [he,Uf]
  | succ m ih=>
   intro i k h1 h2;obtain ⟨k,rfl⟩:∃ j,k=j+1:=⟨k-1,by omega⟩;have hi:i < x.length:=by omega
   rw [h k i hi (by omega),List.drop_eq_getElem_cons hi];simp only [Uf];cases p i x[i] with
   | true=>simpa using ih (i+1) k (by omega) (by omega)
   | false=>rfl
 have:=go x.length 0 k (by omega) (by omega);simpa using this
end
def FZ:List (List UInt8)→List aB→Bool
 | _,[]=>true
 | q,f::r=>!(q.any fun y=>seq y f.Name)&&FZ (q++[f.Name]) r
def om (ks:List (List UInt8)) (s:aD):Bool:=b6 (s.aW.length:Int) 6&&(s.aW.all (p0 ks)&&FZ [] s.aW)
def eM (xs:List aD):Bool:=b6 (xs.length:Int) 6&&(qf (kinds xs)&&xs.all (om (kinds xs)))
theorem Ph {p:aB→Bool}:∀ (r pre:List aB),Uf (fun i f=>p f&&!(((pre++r).take i).any fun g=>seq g.Name f.Name)) pre.length r=(r.all p&&FZ (pre.map (·.Name)) r)
 | [],_=>rfl
 | f::r,pre=>by
  have ih:=Ph (p:=p) r (pre++[f]);simp only [List.append_assoc,List.singleton_append,List.length_append,List.length_cons,List.length_nil,List.map_append,List.map_cons,List.map_nil] at ih;simp only [Uf,FZ,List.all_cons];rw [ih,List.take_left];have e:(pre.any fun g=>seq g.Name f.Name)=((pre.map (·.Name)).any fun y=>seq y f.Name):=by rw [List.any_map];rfl
  rw [e];cases p f<;>cases (pre.map (·.Name)).any fun y=>seq y f.Name<;>cases r.all p<;>rfl
theorem YZ {k:Nat} {xs:List aD} {i:Int} {q:Nat} {s:aD} {J:List aD→Int→Int→aD→Option Bool} (hq:q < s.aW.length) (hs:s.aW.length≤1048576) (hk:4194304≤k):
  iter (ts:=js) (R:=Bool) k (fg J) xs i (q:Int) (0:Int) s=cond ((s.aW.take q).any fun g=>seq g.Name s.aW[q].Name) (some false) (J xs i q s):=by
 have hl:(s.aW.take q).length=q:=by simp;omega
 refine HU (x:=s.aW.take q) (p:=fun g=>seq g.Name s.aW[q].Name) (B:=0) (l:=fun k j=>iter (ts:=js) (R:=Bool) k (fg J) xs i (q:Int) j s)
  (fun k=>by simp only [iter,fg,hl,cg,cond_false]<;>rfl)
  (fun k j hj _=>?_) k (by omega)
 rw [hl] at hj;have mi:j < s.aW.length:=by omega
 simp only [iter,fg,cd hj,bO mi,bO hq,cond_true,bN,bP mi,bP hq,bQ (n:=q) (by omega) hj,List.getElem_take]<;>rfl
theorem Y0 {k:Nat} {xs:List aD} {i:Int} {s:aD} {J:List aD→Int→Option Bool} (hx:xs.length≤1048576) (hs:s.sd) (hk:4194304*3≤k):
  iter (ts:=fA) (R:=Bool) k (dN J) xs i (0:Int) s=cond (s.aW.all (p0 (kinds xs))&&FZ [] s.aW) (J xs i) (some false):=by
 have h:=Xa (x:=s.aW) (p:=fun q f=>p0 (kinds xs) f&&!((s.aW.take q).any fun g=>seq g.Name f.Name)) (B:=4194304*2) (l:=fun k q=>iter (ts:=fA) (R:=Bool) k (dN J) xs i q s) (E:=J xs i) (O:=some false)
  (fun k=>by simp only [iter,dN,cg,cond_false]<;>rfl)
  (fun k q hq hb=>by
   simp only [iter,dN,share,cd hq,bO hq,cond_true,bN,bP hq,RZ (show 8388608≤k by omega) hx (hs.2.2 _ (dB hq)),Option.bind_some];cases p0 (kinds xs) s.aW[q] with
   | false=>rfl
   | true=>
    simp only [Bool.not_true,cond_false,Bool.true_and];refine (YZ hq hs.2.1 (by omega)).trans ?_;rw [bQ hs.2.1 hq];cases (s.aW.take q).any fun g=>seq g.Name s.aW[q].Name<;>rfl) k (by have:=hs.2.1;omega)
 have e:=Ph (p:=p0 (kinds xs)) s.aW [];simp only [List.nil_append,List.length_nil,List.map_nil] at e;rw [e] at h;exact h
theorem Mt {k:Nat} {xs:List aD} (hx:k_ aD.sd xs) (hk:4194304*4≤k):mU k xs=some (eM xs):=by
 unfold mU;have h:=fo (x:=xs) (p:=fun o s=>AD (o.map (·.Kind)) s.Kind&&om (kinds xs) s) (B:=4194304*3) (l:=fun k i=>iter (ts:=gf) (R:=Bool) k (ee (some true)) xs i) (E:=some true) (O:=some false)
  (fun k=>by simp only [iter,ee,cg,cond_false]<;>rfl)
  (fun k i hi hb=>by
   have hsi:=hx.2 _ (dB hi);simp only [iter,ee,share,cd hi,bO hi,cond_true,bN,bP hi,ea (show 4194304≤k by omega) hsi.1,Option.bind_some,bQ hx.1 hi];have fin:∀ c:Bool,cond c (some false) (iter (ts:=fA) (R:=Bool) k (dN fun agv agw=>iter (ts:=gf) (R:=Bool) k (ee (some true)) agv (aN .i64 agw 1)) xs (i:Int) (0:Int) xs[i]) =
     cond (!c&&(xs[i].aW.all (p0 (kinds xs))&&FZ [] xs[i].aW)) (iter (ts:=gf) (R:=Bool) k (ee (some true)) xs ((i+1:Nat):Int)) (some false):=by
    intro c;cases c with
    | true=>rfl
    | false=>
     refine (Y0 hx.1 hsi (by omega)).trans ?_;rw [bQ hx.1 hi];rfl
   simp only [AD,om,← VI];rcases Nat.eq_zero_or_pos i with rfl | h0
   ·simp only [r_,lR];cases cw xs[0].Kind with
    | false=>exact (fin true).trans rfl
    | true=>exact fin _
   ·have da:i-1 < xs.length:=by omega
    simp only [ze h0,qe h0 (by have:=hx.1;omega),bO da,cond_true,bN,bP da,lS h0 hi,Option.map_some];cases cw xs[i].Kind with
    | false=>exact (fin true).trans rfl
    | true=>
     cases slt xs[i-1].Kind xs[i].Kind with
     | false=>exact (fin true).trans rfl
     | true=>exact fin _) k (by have:=hx.1;omega)
 simp only [share];have e1:chain (fun o s=>AD (o.map (·.Kind)) s.Kind&&om (kinds xs) s) none xs=(qf (kinds xs)&&xs.all (om (kinds xs))):=by
  rw [qK,tx]
  congr 1
  exact (JA (f:=aD.Kind) (p:=AD) xs none).symm
 rw [e1] at h;simp only [eM,cO];cases b6 (xs.length:Int) 6 with
 | false=>rfl
 | true=>exact h.trans (by cases qf (kinds xs)&&xs.all (om (kinds xs))<;>rfl)
theorem R0 {k:Nat} {f:aB} {ks:List (List UInt8)} (hk:4194304≤k) (hx:ks.length≤1048576) (h4:bI f.Kind 4=true):jc k ⟨f⟩ ks=some (sound ks f):=by
 unfold jc;simp only [share];have h:=fun J:bH→Bool→Option Bool=>fm (S:=Bool) (x:=ks) (f:=fun (t:Bool) y=>t||seq y f.To) (B:=0) (l:=fun k t i=>iter (ts:=ns) (R:=Bool) k (gh J) ⟨f⟩ t ks (ks.length:Int) i) (J:=fun t=>J ⟨f⟩ t) (fun _ _=>True)
  (fun k t _=>by simp only [iter,gh,cg,cond_false]<;>rfl)
  (fun k i t hi _ _=>⟨by simp only [iter,gh,share,cd hi,bO hi,cond_true,bN,bP hi,bQ hx hi];cases t<;>rfl,trivial⟩) k false (by omega) trivial
 have e:∀ (y:List (List UInt8)) (t:Bool),y.foldl (fun (t:Bool) y=>t||seq y f.To) t=(t||y.any fun k=>seq k f.To):=by
  intro y
  induction y with
  | nil=>intro t;simp
  | cons a r ih=>intro t;rw [List.foldl_cons,ih,List.any_cons,Bool.or_assoc]
 refine (h _).trans ?_;rw [e];have e1:=KA h4 (c:=1) (by decide);have e2:=KA h4 (c:=2) (by decide);have e3:=KA h4 (c:=3) (by decide);simp only [e,sound,e1,e2,e3,h4,Bool.false_or];cases ks.any fun k=>seq k f.To<;>cases b6 1 f.cB<;>cases b6 f.cB 3<;>cases seq f.Default []<;>cases bI f.cB 2<;>cases f.cV<;>rfl
def iB (n:List UInt8) (m:List cx):Int:=m7 (fun p:cx=>seq n p.Key) (fun p:cx=>p.L4) (0:Int) m
def see (n:List UInt8) (m:List cx):List cx:=oM (fun p:cx=>seq n p.Key) m ⟨n,aN .i64 (iB n m) 1⟩
theorem Pj (n n':List UInt8) (m:List cx):iB n' (see n m)=cond (seq n' n) (aN .i64 (iB n m) 1) (iB n' m):=JD (key:=cx.Key) (y:=⟨n,aN .i64 (iB n m) 1⟩)
def VK (ks:List (List UInt8)) (m:List cx) (_:Nat) (f:aB):List cx ⊕ Option Bool:=cond (p0 ks f&&!bM 1 (iB f.Name (see f.Name m))) (.inl (see f.Name m)) (.inr (some false))
theorem acC (ks:List (List UInt8)):∀ (r:List aB) (i:Nat) (m:List cx) (q:List (List UInt8)),(∀ n,iB n m=if q.any (fun y=>seq y n) then 1 else 0)→fin (fun _=>some true) (scan (VK ks) r i m)=some (r.all (p0 ks)&&FZ q r)
 | [],_,_,_,_=>rfl
 | f::r,i,m,q,h=>by
  simp only [scan,VK,List.all_cons,FZ];have e0:iB f.Name (see f.Name m)=aN .i64 (iB f.Name m) 1:=by rw [Pj,pj];rfl
  rw [e0,h f.Name];cases p0 ks f with
  | false=>rfl
  | true=>
   cases hq:q.any fun y=>seq y f.Name with
   | true=>
    simp only [if_true];rw [show (aN .i64 (1:Int) 1)=2 from rfl,show bM 1 2=true from rfl];simp [fin]
   | false=>
    simp only [Bool.false_eq_true,if_false];rw [show (aN .i64 (0:Int) 1)=1 from rfl,show bM 1 1=false from rfl];simp only [Bool.not_false,Bool.and_true,cond_true,Bool.true_and];refine acC ks r (i+1) _ (q++[f.Name]) fun n=>?_;rw [Pj,h f.Name,h n,hq,List.any_append];cases hn:seq n f.Name with
    | true=>
     have e:=cC.1 hn;subst e;simp [pj];rfl
    | false=>
     rw [show (([f.Name]:List (List UInt8)).any fun y=>seq y n)=false by simp [xS f.Name n,hn],Bool.or_false];rfl
set_option maxHeartbeats 1000000 in
theorem OA {k:Nat} {s:aD} {ks:List (List UInt8)} (hs:s.sd) (R1:ks.length≤1048576) (hk:4194304*4≤k):wD k s ks=some (om ks s):=by
 unfold wD;have h:=O_ (S:=List cx) (R:=Option Bool) (x:=s.aW) (f:=VK ks) (B:=4194304*3) (l:=fun k m i=>iter (ts:=p_) (R:=Bool) k (mc (some true)) ks s.aW (s.aW.length:Int) i m) (J:=fun _=>some true) (fun _ _=>True)
  (fun k m _=>by simp only [iter,mc,cg,cond_false]<;>rfl)
  (fun k i m hi hb _=>⟨by
   obtain ⟨f1,-,-,-,f5,-,-,-,-,f10,f11⟩:=hs.2.2 _ (dB hi);have hk1:4194304≤k:=by omega
   have hk2:8388608≤k:=by omega
   simp only [iter,mc,share,cd hi,bO hi,cond_true,bN,bP hi,bQ hs.2.1 hi,fP hk1 f1,Option.bind_some];have em:(oM (fun p:cx=>seq s.aW[i].Name p.Key) m (⟨s.aW[i].Name,(aN .i64 (m7 (fun p:cx=>seq s.aW[i].Name p.Key) (fun p:cx=>p.L4) (0:Int) m) (1:Int))⟩:cx))=see s.aW[i].Name m:=rfl;have es:m7 (fun p:cx=>seq s.aW[i].Name p.Key) (fun p:cx=>p.L4) (0:Int) (see s.aW[i].Name m)=iB s.aW[i].Name (see s.aW[i].Name m):=rfl;simp only [em,es];unfold VK p0;generalize see s.aW[i].Name m=m';generalize iter (ts:=p_) (R:=Bool) k (mc (some true))=rec;generalize hF:s.aW[i]=f at *;cases cw f.Name with
   | false=>rfl
   | true=>
    simp only [Bool.not_true,cond_false,Bool.true_and,uW,uh,ug,uf,ue,Option.bind_some];cases bM 1 (iB f.Name m') with
    | true=>simp [fin]<;>rfl
    | false=>
     simp only [cond_false,Bool.not_false,Bool.and_true];cases k1:bI f.Kind 1 with
     | true=>
      simp only [cond_true,Option.bind_some,xA,lC,lD,tA hk1 f5.1 f10,fP hk1 f11,bare,sound,k1];cases bI (f.Words.length:Int) 0<;>cases seq f.To []<;>cases bI f.cB 0<;>cases b6 0 f.bR<;>cases b6 f.bR f.bU<;>cases b6 f.bU 1000000<;>cases seq f.bD []<;>cases cw f.bD<;>cases seq f.Default []<;>cases fits f f.Default<;>rfl
     | false=>
      simp only [cond_false];cases k2:bI f.Kind 2 with
      | true=>
       simp only [cond_true,Option.bind_some,xA,nw,nx,tA hk1 f5.1 f10,tB hk2 f5,bare,sound,k1,k2];cases bI f.bR 0<;>cases bI f.bU 0<;>cases seq f.To []<;>cases bI f.cB 0<;>cases seq f.bD []<;>cases b6 1 (f.Words.length:Int)<;>cases b6 (f.Words.length:Int) 6<;>cases qf f.Words<;>cases seq f.Default []<;>cases fits f f.Default<;>rfl
      | false=>
       simp only [cond_false];cases k3:bI f.Kind 3 with
       | true=>
        simp only [cond_true,Option.bind_some,xA,nu,nv,tA hk1 f5.1 f10,bare,sound,k1,k2,k3];cases bI (f.Words.length:Int) 0<;>cases seq f.To []<;>cases bI f.cB 0<;>cases seq f.bD []<;>cases b6 1 f.bR<;>cases b6 f.bR f.bU<;>cases b6 f.bU 40<;>cases seq f.Default []<;>cases fits f f.Default<;>rfl
       | false=>
        simp only [cond_false];cases k4:bI f.Kind 4 with
        | true=>
         simp only [cond_true,Option.bind_some,xA,nr,R0 hk1 R1 k4,tA hk1 f5.1 f10];generalize sound ks f=sd;simp only [bare,k1,k2,k3,k4];cases bI f.bR 0<;>cases bI f.bU 0<;>cases bI (f.Words.length:Int) 0<;>cases seq f.bD []<;>cases sd<;>cases seq f.Default []<;>cases fits f f.Default<;>rfl
        | false=>rw [ada k1 k2 k3 k4];rfl,fun _ _=>trivial⟩) k [] (by have:=hs.2.1;omega) trivial
 simp only [share,om,cO];cases b6 (s.aW.length:Int) 6 with
 | false=>rfl
 | true=>exact h.trans (by rw [acC ks s.aW 0 [] [] fun n=>rfl];rfl)
theorem xT {k:Nat} {xs:List aD} (hx:k_ aD.sd xs) (hk:4194304*5≤k):gi k xs=some (eM xs):=by
 unfold gi;have Y1:k_ dd (kinds xs):=⟨by simp only [kinds,List.length_map];exact hx.1,fun y hy=>by
  obtain ⟨s,h1,rfl⟩:=List.mem_map.1 hy;exact (hx.2 s h1).1⟩
 have h1:=fun (J:List aD→List (List UInt8)→Option Bool)=>fm (S:=List (List UInt8)) (x:=xs) (f:=fun (q:List (List UInt8)) s=>q++[s.Kind]) (B:=0) (l:=fun k q i=>iter (ts:=qD) (R:=Bool) k (jd J) xs xs (xs.length:Int) i q) (J:=fun q=>J xs q) (fun i q=>q.length=i)
  (fun k q _=>by simp only [iter,jd,cg,cond_false]<;>rfl)
  (fun k i q hi _ hq=>⟨by
   have:=hx.1;simp only [iter,jd,cd hi,bO hi,cond_true,bN,bP hi,bQ hx.1 hi];rw [lQ (by simp;omega) (by omega)];rfl,by simp [hq]⟩) k [] (by have:=hx.1;omega) rfl
 have e:∀ (y:List aD) (q:List (List UInt8)),y.foldl (fun (q:List (List UInt8)) s=>q++[s.Kind]) q=q++kinds y:=by
  intro y
  induction y with
  | nil=>intro q;simp [kinds]
  | cons a r ih=>intro q;rw [List.foldl_cons,ih];simp [kinds]
 have h2:=gI (x:=xs) (p:=om (kinds xs)) (B:=4194304*4) (l:=fun k i=>iter (ts:=pd) (R:=Bool) k (iv (some true)) xs (xs.length:Int) i (kinds xs)) (E:=some true) (O:=some false)
  (fun k=>by simp only [iter,iv,cg,cond_false]<;>rfl)
  (fun k i hi hb=>by
   simp only [iter,iv,cd hi,bO hi,cond_true,bN,bP hi,bQ hx.1 hi,OA (hx.2 _ (dB hi)) Y1.1 hb,Option.bind_some];cases om (kinds xs) xs[i]<;>rfl) k (by have:=hx.1;omega)
 simp only [share,eM,cO];cases hl:b6 (xs.length:Int) 6 with
 | false=>rfl
 | true=>
  rw [show Gf (0:Int) (xs.length:Int) 16=true by
   simp only [Gf,Bool.and_eq_true,decide_eq_true_eq];have:=hx.1;omega]
  simp only [Bool.not_true,cond_false,bN];refine (h1 _).trans ?_;rw [e,List.nil_append];simp only [tB (show 8388608≤k by omega) Y1,Option.bind_some,h2];cases qf (kinds xs)<;>cases xs.all (om (kinds xs))<;>rfl
theorem R2 (a b:Int):bI a b=bI b a:=by
 rw [Bool.eq_iff_iff];simp only [bI,beq_iff_eq];exact eq_comm
theorem EA (to:List UInt8):∀ (xs:List aD) (i:Nat),Qq to xs i=tz (fun s=>seq s.Kind to) xs i
 | [],_=>rfl
 | s::r,i=>by simp only [Qq,tz,EA to r]
theorem EB {k:Nat} {xs:List aD} {n:List UInt8} (hk:4194304≤k) (hx:xs.length≤1048576):lE k xs n=some (tz (fun s=>seq s.Kind n) xs 0):=by
 unfold lE;simp only [share];exact mr (x:=xs) (p:=fun s=>seq s.Kind n) (l:=fun k i=>iter (ts:=xB) (R:=Int) k (pN (some (-1))) n xs (xs.length:Int) i)
  (fun k=>by simp only [iter,pN,cg,cond_false]<;>rfl)
  (fun k i hi=>by simp only [iter,pN,cd hi,bO hi,cond_true,bN,bP hi,bQ hx hi]<;>rfl) k (by omega)
end Go.Proofs.YtjkbbdldmdajkaaGreatDoor.Pu
