/- Plain words and laws. No condition. -/
import Derived.Test.YtjkbbdldmdajkaaGreatDoorPvMk
set_option linter.unusedSimpArgs false
set_option linter.unusedVariables false
namespace Go.Proofs.YtjkbbdldmdajkaaGreatDoor.Pu
open Go Go.RowKit Go.Proofs.YtjkbbdldmdajkaaGreatDoor.c_ Go.Proofs.YtjkbbdldmdajkaaGreatDoor.Fn
theorem Yd.ofE {α:Type} {F:Nat→Option α} {a:α} (B:Nat) (h:∀ k,B≤k→F k=some a):Yd F a:=⟨B,h⟩
theorem bL {R:Type} (x:Option R):aZ true x=x:=rfl
theorem agv {α β γ:Type} (x:α) (f:α→γ) (g:β→γ):yr (.inl x) f g=f x:=rfl
theorem ady {α β γ:Type} (x:β) (f:α→γ) (g:β→γ):yr (.inr x) f g=g x:=rfl
theorem agk {α β:Type} (x:α) (f:α→β):share x f=f x:=rfl
theorem cf {i n:Nat} (h:i < n):bK (i:Int) (n:Int)=true:=hY (by omega)
theorem ck {n:Nat}:bK (n:Int) (n:Int)=false:=dz (by omega)
theorem bM {i n:Nat} (h:i < n):bW (i:Int) n=true:=Iv (by omega) (by omega)
theorem bQ {i n:Nat} (hn:n≤1048576) (h:i < n):aP .i64 (i:Int) 1=((i+1:Nat):Int):=by
 rw [t_ (by omega) (by omega)];norm_cast
theorem q9 {i:Nat} (h0:0 < i) (hi:i≤1048576):bO .i64 (i:Int) 1=((i-1:Nat):Int):=by
 rw [Sr (by omega) (by omega)];omega
theorem z0 {i:Nat} (h:0 < i):bK 0 (i:Int)=true:=hY (by omega)
theorem sZ:bK 0 ((0:Nat):Int)=false:=rfl
theorem agw {n:Nat} (h:n≤1048576):n≤maxLen:=by have:=max_eq;omega
theorem dJ {α:Type} {x:List α} {i:Nat} (h:i < x.length):x[i]∈x:=List.getElem_mem h
theorem bR {α:Type} {d:α} {x:List α} {i:Nat} (hi:i < x.length):nth d x (i:Int)=x[i]:=L9 hi
section
variable {α R S:Type} {x:List α} {B:Nat}
theorem Iw {p:α→Bool} {l:Nat→Int→R} {E O:R} (he:∀ k,l (k+1) (x.length:Int)=E)
  (h:∀ k i (hi:i < x.length),B≤k→l (k+1) (i:Int)=cond (p x[i]) O (l k ((i+1:Nat):Int))) (k:Nat) (hk:B+x.length+1≤k):l k 0=cond (x.any p) O E:=by
 have go:∀ m i k,i+m=x.length→B+m+1≤k→l k (i:Int)=cond ((x.drop i).any p) O E:=by
  intro m
  induction m with
  | zero=>
   intro i k h1 h2;obtain rfl:i=x.length:=by omega
   obtain ⟨k,rfl⟩:∃ j,k=j+1:=⟨k-1,by omega⟩;simp [he]
  | succ m ih=>
   intro i k h1 h2;obtain ⟨k,rfl⟩:∃ j,k=j+1:=⟨k-1,by omega⟩;have hi:i < x.length:=by omega
   rw [h k i hi (by omega),List.drop_eq_getElem_cons hi,List.any_cons];cases p x[i] with
   | true=>rfl
   | false=>simpa using ih (i+1) k (by omega) (by omega)
 have:=go x.length 0 k (by omega) (by omega);simpa using this
theorem gN {p:α→Bool} {l:Nat→Int→R} {E O:R} (he:∀ k,l (k+1) (x.length:Int)=E)
  (h:∀ k i (hi:i < x.length),B≤k→l (k+1) (i:Int)=cond (p x[i]) (l k ((i+1:Nat):Int)) O) (k:Nat) (hk:B+x.length+1≤k):l k 0=cond (x.all p) E O:=by
 have:=Iw (p:=fun a=>!p a) (l:=l) (E:=E) (O:=O) he (fun k i hi hb=>by rw [h k i hi hb];cases p x[i]<;>rfl) k hk;rw [this];have e:(x.any fun a=>!p a)=!x.all p:=by simp [List.any_eq_not_all_not]
 rw [e];cases x.all p<;>rfl
def scan (f:S→Nat→α→S ⊕ R):List α→Nat→S→S ⊕ R
 | [],_,s=>.inl s
 | a::r,i,s=>match f s i a with
  | .inl s'=>scan f r (i+1) s'
  | .inr y=>.inr y
def fin (J:S→R):S ⊕ R→R
 | .inl s=>J s
 | .inr y=>y
theorem MJ {l:Nat→S→Int→R} {J:S→R} {f:S→Nat→α→S ⊕ R} (I:Nat→S→Prop)
  (he:∀ k s,I x.length s→l (k+1) s (x.length:Int)=J s)
  (h:∀ k i s (hi:i < x.length),B≤k→I i s→l (k+1) s (i:Int)=fin (fun s'=>l k s' ((i+1:Nat):Int)) (f s i x[i])∧∀ s',f s i x[i]=.inl s'→I (i+1) s'):
  ∀ m i k s,i+m=x.length→B+m+1≤k→I i s→l k s (i:Int)=fin J (scan f (x.drop i) i s):=by
 intro m
 induction m with
 | zero=>
  intro i k s h1 h2 h3;obtain rfl:i=x.length:=by omega
  obtain ⟨k,rfl⟩:∃ j,k=j+1:=⟨k-1,by omega⟩;rw [he k s h3,List.drop_length];rfl
 | succ m ih=>
  intro i k s h1 h2 h3;obtain ⟨k,rfl⟩:∃ j,k=j+1:=⟨k-1,by omega⟩;have hi:i < x.length:=by omega
  obtain ⟨h4,h5⟩:=h k i s hi (by omega) h3;rw [h4,List.drop_eq_getElem_cons hi];simp only [scan];cases hf:f s i x[i] with
  | inl s'=>exact ih (i+1) k s' (by omega) (by omega) (h5 s' hf)
  | inr y=>rfl
theorem PI {l:Nat→S→Int→R} {J:S→R} {f:S→Nat→α→S ⊕ R} (I:Nat→S→Prop)
  (he:∀ k s,I x.length s→l (k+1) s (x.length:Int)=J s)
  (h:∀ k i s (hi:i < x.length),B≤k→I i s→l (k+1) s (i:Int)=fin (fun s'=>l k s' ((i+1:Nat):Int)) (f s i x[i])∧∀ s',f s i x[i]=.inl s'→I (i+1) s')
  (k:Nat) (s:S) (hk:B+x.length+1≤k) (h0:I 0 s):l k s 0=fin J (scan f x 0 s):=by
 have:=MJ I he h x.length 0 k s (by omega) hk h0;simpa using this
theorem fD {l:Nat→S→Int→R} {J:S→R} {f:S→α→S} (I:Nat→S→Prop)
  (he:∀ k s,I x.length s→l (k+1) s (x.length:Int)=J s)
  (h:∀ k i s (hi:i < x.length),B≤k→I i s→l (k+1) s (i:Int)=l k (f s x[i]) ((i+1:Nat):Int)∧I (i+1) (f s x[i]))
  (k:Nat) (s:S) (hk:B+x.length+1≤k) (h0:I 0 s):l k s 0=J (x.foldl f s):=by
 have:=PI (f:=fun s _ a=>.inl (f s a)) I he (fun k i s hi hb h0=>⟨(h k i s hi hb h0).1,fun s' e=>by cases e;exact (h k i s hi hb h0).2⟩) k s hk h0;rw [this];have e:∀ (y:List α) i s,scan (R:=R) (fun s _ a=>.inl (f s a)) y i s=.inl (y.foldl f s):=by
  intro y
  induction y with
  | nil=>intro i s;rfl
  | cons a r ih=>intro i s;simp only [scan,List.foldl_cons];exact ih _ _
 rw [e];rfl
end
def bt (c:UInt8):Int:=(c.toNat:Int)
theorem MK (c:UInt8):0≤bt c∧bt c≤255:=by
 have:=c.toNat_lt;simp only [bt];omega
theorem yK {s:List UInt8} {i:Nat} (h:i < s.length):AI s (i:Int)=bt s[i]:=by
 simp only [AI,Int.toNat_natCast,List.getD,bt];rw [List.getElem?_eq_getElem h];rfl
theorem hC {n b:Nat} (hn:n≤16777216) (hb:b≤100000):mw n b=true:=by
 have h1:n*b≤16777216*100000:=Nat.mul_le_mul hn hb;simp only [mw,Bool.and_eq_true,decide_eq_true_eq];omega
theorem wrap_u8 {n:Int} (h0:0≤n) (h1:n≤255):IntKind.u8.wrap n=n:=by
 simp only [IntKind.wrap,IntKind.bits,IntKind.signed,Bool.false_and];split
 ·rename_i h;simp at h
 ·omega
theorem LO (k:Nat) (a b c:Int):dE k a b c=some (b8 b a&&b8 a c):=by
 unfold dE;cases b8 b a<;>rfl
def nb (c:UInt8):Bool:=(b8 97 (bt c)&&b8 (bt c) 122)||((b8 48 (bt c)&&b8 (bt c) 57)||bH (bt c) 45)
theorem Ss (k:Nat) (c:UInt8):vN k (bt c)=some (nb c):=by
 unfold vN nb;cases b8 97 (bt c)<;>cases b8 (bt c) 122<;>cases b8 48 (bt c)<;>cases b8 (bt c) 57<;>cases bH (bt c) 45<;>rfl
theorem UG (k:Nat) (c:UInt8):u6 k (bt c)=some (nb c):=by
 unfold u6 nb;cases b8 97 (bt c)<;>cases b8 (bt c) 122<;>cases b8 48 (bt c)<;>cases b8 (bt c) 57<;>cases bH (bt c) 45<;>rfl
def cB (s:List UInt8):Bool:=b8 1 (s.length:Int)&&(b8 (s.length:Int) 16&&s.all nb)
theorem ez {k:Nat} {s:List UInt8} (hk:4194304≤k) (hs:dt s):cu k s=some (cB s):=by
 unfold cu cB;have h:=gN (x:=s) (p:=nb) (B:=0) (l:=fun k i=>iter (ts:=wY) (R:=Bool) k (oP (some true)) s i) (E:=some true) (O:=some false)
  (fun k=>by simp only [iter,oP,ck,cond_false]<;>rfl)
  (fun k i hi _=>by
   simp only [iter,oP,cf hi,bM hi,cond_true,bL,yK hi,Ss,Option.bind_some,bQ hs hi];cases nb s[i]<;>rfl) k (by have:s.length≤1048576:=hs;omega)
 simp only [share,LO,Option.bind_some,h];cases b8 1 (s.length:Int)<;>cases b8 (s.length:Int) 16<;>cases s.all nb<;>rfl
theorem K9 {k:Nat} {s:List UInt8} (hk:4194304≤k) (hs:dt s):fZ k s=some (s.all nb):=by
 unfold fZ;have h:=gN (x:=s) (p:=nb) (B:=0) (l:=fun k i=>iter (ts:=vQ) (R:=Bool) k (nG (some true)) s (s.length:Int) i) (E:=some true) (O:=some false)
  (fun k=>by simp only [iter,nG,ck,cond_false]<;>rfl)
  (fun k i hi _=>by
   simp only [iter,nG,cf hi,bM hi,cond_true,bL,yK hi,UG,Option.bind_some,bQ hs hi];cases nb s[i]<;>rfl) k (by have:s.length≤1048576:=hs;omega)
 simp only [share];exact h.trans (by cases s.all nb<;>rfl)
theorem f_ {k:Nat} {s:List UInt8} (hk:4194304≤k) (hs:dt s):cY k s=some (cB s):=by
 unfold cY cB;simp only [K9 hk hs,Option.bind_some];cases b8 1 (s.length:Int)<;>cases b8 (s.length:Int) 16<;>rfl
theorem V6 (a b:Int):(!bK a b)=b8 b a:=by
 by_cases h:a < b
 ·rw [hY h,St (by omega)];rfl
 ·rw [dz h,C8 (by omega)];rfl
theorem cL (a b:Int):bK a b=!b8 b a:=by rw [← V6];simp
theorem PJ {s:List UInt8} (h:seq s []=true):cB s=false:=by
 have e:s=[]:=by simpa [seq] using h
 subst e;rfl
section
variable {α R S:Type} {x:List α} {B:Nat}
def chain (p:Option α→α→Bool):Option α→List α→Bool
 | _,[]=>true
 | q,a::r=>p q a&&chain p (some a) r
def ahead (x:List α) (i:Nat):Option α:=if i=0 then none else x[i-1]?
theorem mm:ahead x 0=none:=rfl
theorem mn {i:Nat} (h:0 < i) (hi:i < x.length):ahead x i=some (x[i-1]'(by omega)):=by
 unfold ahead;rw [if_neg (by omega)];exact List.getElem?_eq_getElem _
theorem fE {p:Option α→α→Bool} {l:Nat→Int→R} {E O:R} (he:∀ k,l (k+1) (x.length:Int)=E)
  (h:∀ k i (hi:i < x.length),B≤k→l (k+1) (i:Int)=cond (p (ahead x i) x[i]) (l k ((i+1:Nat):Int)) O) (k:Nat) (hk:B+x.length+1≤k):l k 0=cond (chain p none x) E O:=by
 have go:∀ m i k,i+m=x.length→B+m+1≤k→l k (i:Int)=cond (chain p (ahead x i) (x.drop i)) E O:=by
  intro m
  induction m with
  | zero=>
   intro i k h1 h2;obtain rfl:i=x.length:=by omega
   obtain ⟨k,rfl⟩:∃ j,k=j+1:=⟨k-1,by omega⟩;simp [he,chain]
  | succ m ih=>
   intro i k h1 h2;obtain ⟨k,rfl⟩:∃ j,k=j+1:=⟨k-1,by omega⟩;have hi:i < x.length:=by omega
   rw [h k i hi (by omega),List.drop_eq_getElem_cons hi];have e:some x[i]=ahead x (i+1):=by simp [ahead]
   simp only [chain,e];cases p (ahead x i) x[i] with
   | true=>simpa using ih (i+1) k (by omega) (by omega)
   | false=>rfl
 have:=go x.length 0 k (by omega) (by omega);simpa [ahead] using this
theorem uC {p q:Option α→α→Bool}:∀ (y:List α) (o:Option α),chain (fun o a=>p o a&&q o a) o y=(chain p o y&&chain q o y)
 | [],_=>rfl
 | a::r,o=>by
  simp only [chain,uC r];cases p o a<;>cases q o a<;>cases chain p (some a) r<;>rfl
theorem uD {p:α→Bool}:∀ (y:List α) (o:Option α),chain (fun _ a=>p a) o y=y.all p
 | [],_=>rfl
 | a::r,o=>by simp only [chain,uD r,List.all_cons]
theorem J4 {β:Type} {f:α→β} {p:Option β→β→Bool}:∀ (y:List α) (o:Option α),chain p (o.map f) (y.map f)=chain (fun o a=>p (o.map f) (f a)) o y
 | [],_=>rfl
 | a::r,o=>by simp only [List.map_cons,chain];rw [← J4 r];rfl
theorem ML {p:α→Bool} {y:α}:pB p [] y=[y]:=rfl
theorem J5 {p:α→Bool} {a y:α} {l:List α}:pB p (a::l) y=cond (p a) (y::l) (a::pB p l y):=by
 unfold pB;rw [List.findIdx?_cons];cases p a with
 | true=>rfl
 | false=>cases h:l.findIdx? p<;>simp [h]
theorem m8 {β:Type} {p:α→Bool} {f:α→β} {d:β} {a:α} {l:List α}:nN p f d (a::l)=cond (p a) (f a) (nN p f d l):=by
 unfold nN;rw [List.find?_cons];cases p a<;>rfl
theorem Bj {p:α→Bool} {a:α} {l:List α}:J6 p (a::l)=(p a||J6 p l):=by
 unfold J6;rw [List.findIdx?_cons];cases p a<;>cases l.findIdx? p<;>rfl
theorem eP {a b:List UInt8}:seq a b=true↔a=b:=by simp [seq]
theorem Ei (a b:List UInt8):seq a b=seq b a:=by
 rw [Bool.eq_iff_iff,eP,eP];exact eq_comm
theorem J7 {β:Type} {key:α→List UInt8} {f:α→β} {d:β} {y:α} {n:List UInt8}:∀ {l:List α},nN (fun p=>seq n (key p)) f d (pB (fun p=>seq (key y) (key p)) l y)=cond (seq n (key y)) (f y) (nN (fun p=>seq n (key p)) f d l)
 | []=>by rw [ML,m8]
 | a::l=>by
  rw [J5];cases h:seq (key y) (key a) with
  | true=>
   have e:=eP.1 h;rw [cond_true,m8,m8,← e];cases seq n (key y)<;>rfl
  | false=>
   rw [cond_false,m8,m8,J7];cases h1:seq n (key a) with
   | false=>rfl
   | true=>
    have e:=eP.1 h1;subst e;rw [show seq (key a) (key y)=false by rw [Ei];exact h];rfl
theorem Xt {key:α→List UInt8} {y:α} {n:List UInt8}:∀ {l:List α},J6 (fun p=>seq n (key p)) (pB (fun p=>seq (key y) (key p)) l y)=(seq n (key y)||J6 (fun p=>seq n (key p)) l)
 | []=>by rw [ML,Bj]
 | a::l=>by
  rw [J5];cases h:seq (key y) (key a) with
  | true=>
   have e:=eP.1 h;rw [cond_true,Bj,Bj,← e];cases seq n (key y)<;>rfl
  | false=>
   rw [cond_false,Bj,Bj,Xt];cases seq n (key a)<;>cases seq n (key y)<;>rfl
end
def Bk (q:Option (List UInt8)) (s:List UInt8):Bool:=cB s&&(match q with | none=>true | some p=>slt p s)
def q_ (xs:List (List UInt8)):Bool:=chain Bk none xs
abbrev Nm:=List UInt8
section
variable {α:Type} {x:List α} {B:Nat} {p:α→Bool}
def uE (p:α→Bool):List α→Nat→Int
 | [],_=>-1
 | a::r,i=>cond (p a) (i:Int) (uE p r (i+1))
theorem m9 {l:Nat→Int→Option Int} (he:∀ k,l (k+1) (x.length:Int)=some (-1))
  (h:∀ k i (hi:i < x.length),l (k+1) (i:Int)=cond (p x[i]) (some (i:Int)) (l k ((i+1:Nat):Int))) (k:Nat) (hk:x.length+1≤k):l k 0=some (uE p x 0):=by
 have go:∀ m i k,i+m=x.length→m+1≤k→l k (i:Int)=some (uE p (x.drop i) i):=by
  intro m
  induction m with
  | zero=>
   intro i k h1 h2;obtain rfl:i=x.length:=by omega
   obtain ⟨k,rfl⟩:∃ j,k=j+1:=⟨k-1,by omega⟩;simp [he,uE]
  | succ m ih=>
   intro i k h1 h2;obtain ⟨k,rfl⟩:∃ j,k=j+1:=⟨k-1,by omega⟩;have hi:i < x.length:=by omega
   rw [h k i hi,List.drop_eq_getElem_cons hi];simp only [uE];cases p x[i] with
   | true=>rfl
   | false=>exact ih (i+1) k (by omega) (by omega)
 have:=go x.length 0 k (by omega) (by omega);simpa using this
theorem PK:∀ (y:List α) (i:Nat),(uE p y i=-1∧y.find? p=none)∨∃ j,∃ h:j < y.length,uE p y i=((i+j:Nat):Int)∧y.find? p=some y[j]∧p y[j]=true
 | [],i=>.inl ⟨rfl,rfl⟩
 | a::r,i=>by
  simp only [uE,List.find?_cons];cases ha:p a with
  | true=>exact .inr ⟨0,by simp,by simp,by simp,ha⟩
  | false=>
   rcases PK r (i+1) with ⟨h1,h2⟩ | ⟨j,hj,h1,h2,h3⟩
   ·exact .inl ⟨h1,h2⟩
   ·exact .inr ⟨j+1,by simpa using hj,by simp only [cond_false,h1];congr 1;omega,by simpa using h2,by simpa using h3⟩
theorem eJ (p:α→Bool) (x:List α):(uE p x 0=-1∧x.find? p=none)∨∃ j,∃ h:j < x.length,uE p x 0=(j:Int)∧x.find? p=some x[j]∧p x[j]=true:=by
 rcases PK (p:=p) x 0 with h | ⟨j,hj,h1,h2⟩
 ·exact .inl h
 ·exact .inr ⟨j,hj,by simpa using h1,h2⟩
end
section
variable {α R:Type} {x:List α} {B:Nat}
theorem J8 {p:α→Bool} {l:Nat→Int→R} {E:R} {O:α→R} (he:∀ k,l (k+1) (x.length:Int)=E)
  (h:∀ k i (hi:i < x.length),B≤k→l (k+1) (i:Int)=cond (p x[i]) (O x[i]) (l k ((i+1:Nat):Int))) (k:Nat) (hk:B+x.length+1≤k):l k 0=(match x.find? p with | some a=>O a | none=>E):=by
 have go:∀ m i k,i+m=x.length→B+m+1≤k→l k (i:Int)=(match (x.drop i).find? p with | some a=>O a | none=>E):=by
  intro m
  induction m with
  | zero=>
   intro i k h1 h2;obtain rfl:i=x.length:=by omega
   obtain ⟨k,rfl⟩:∃ j,k=j+1:=⟨k-1,by omega⟩;simp [he]
  | succ m ih=>
   intro i k h1 h2;obtain ⟨k,rfl⟩:∃ j,k=j+1:=⟨k-1,by omega⟩;have hi:i < x.length:=by omega
   rw [h k i hi (by omega),List.drop_eq_getElem_cons hi,List.find?_cons];cases p x[i] with
   | true=>rfl
   | false=>exact ih (i+1) k (by omega) (by omega)
 have:=go x.length 0 k (by omega) (by omega);simpa using this
end
section
variable {α β R:Type} {x:List α} {B:Nat}
def first (g:Nat→α→Option β):List α→Nat→Option β
 | [],_=>none
 | a::r,i=>match g i a with
  | some c=>some c
  | none=>first g r (i+1)
theorem Hj {g:Nat→α→Option β} {l:Nat→Int→R} {E:R} {O:β→R} (he:∀ k,l (k+1) (x.length:Int)=E)
  (h:∀ k i (hi:i < x.length),B≤k→l (k+1) (i:Int)=(match g i x[i] with | some c=>O c | none=>l k ((i+1:Nat):Int))) (k:Nat) (hk:B+x.length+1≤k):l k 0=(match first g x 0 with | some c=>O c | none=>E):=by
 have go:∀ m i k,i+m=x.length→B+m+1≤k→l k (i:Int)=(match first g (x.drop i) i with | some c=>O c | none=>E):=by
  intro m
  induction m with
  | zero=>
   intro i k h1 h2;obtain rfl:i=x.length:=by omega
   obtain ⟨k,rfl⟩:∃ j,k=j+1:=⟨k-1,by omega⟩;simp [he,first]
  | succ m ih=>
   intro i k h1 h2;obtain ⟨k,rfl⟩:∃ j,k=j+1:=⟨k-1,by omega⟩;have hi:i < x.length:=by omega
   rw [h k i hi (by omega),List.drop_eq_getElem_cons hi];simp only [first];cases g i x[i] with
   | some c=>rfl
   | none=>exact ih (i+1) k (by omega) (by omega)
 have:=go x.length 0 k (by omega) (by omega);simpa using this
theorem PL {g g':Nat→α→Option β}:∀ (y:List α) (i:Nat),(∀ j a,y[j]?=some a→g (i+j) a=g' (i+j) a)→first g y i=first g' y i
 | [],_,_=>rfl
 | a::r,i,h=>by
  simp only [first];have h0:=h 0 a rfl;rw [Nat.add_zero] at h0;have hr:=PL (g:=g) (g':=g') r (i+1) fun j b hb=>by have:=h (j+1) b (by simpa using hb);rwa [show i+(j+1)=i+1+j by omega] at this
  rw [h0,hr]
end
theorem L_:∀ a:List UInt8,slt a a=false
 | []=>rfl
 | a::r=>by
  have:=L_ r;simp only [slt,Op.bytesLess] at *;simp [this]
theorem QO:∀ {a b c:List UInt8},slt a b=true→slt b c=true→slt a c=true
 | [],b,c,h1,h2=>by
  cases c with
  | nil=>cases b<;>simp [slt,Op.bytesLess] at h2
  | cons=>rfl
 | a::r,b,c,h1,h2=>by
  cases b with
  | nil=>simp [slt,Op.bytesLess] at h1
  | cons b s=>
   cases c with
   | nil=>simp [slt,Op.bytesLess] at h2
   | cons c t=>
    have ih:=@QO r s t;simp only [slt,Op.bytesLess,Bool.or_eq_true,Bool.and_eq_true,decide_eq_true_eq,beq_iff_eq] at *;rcases h1 with h1 | ⟨rfl,h1⟩
    ·rcases h2 with h2 | ⟨rfl,h2⟩
     ·exact .inl (UInt8.lt_trans h1 h2)
     ·exact .inl h1
    ·rcases h2 with h2 | ⟨rfl,h2⟩
     ·exact .inl h2
     ·exact .inr ⟨rfl,ih h1 h2⟩
theorem J9:∀ {xs:List (List UInt8)} {q:Option (List UInt8)},chain Bk q xs=true→xs.Nodup∧∀ p,q=some p→∀ y,y∈xs→slt p y=true
 | [],_,_=>⟨List.nodup_nil,fun _ _ _ h=>by cases h⟩
 | a::r,q,h=>by
  simp only [chain,Bk,Bool.and_eq_true] at h;obtain ⟨⟨-,h1⟩,h2⟩:=h;obtain ⟨h3,h4⟩:=J9 h2;refine ⟨List.nodup_cons.2 ⟨fun hm=>?_,h3⟩,fun p hp y hy=>?_⟩
  ·have:=h4 a rfl a hm;rw [L_] at this;cases this
  ·subst hp;rcases List.mem_cons.1 hy with e | e
   ·exact e▸h1
   ·exact QO h1 (h4 a rfl y e)
theorem PM {xs:List (List UInt8)} (h:q_ xs=true):xs.Nodup:=(J9 h).1
theorem ot {a b:Int} (h:b8 a b=true):a≤b:=by simpa [b8] using h
def h_ (x:List aJ) (n:Nm):Option aJ:=x.find? fun t=>seq t.Name n
def z6 (x:List aJ) (n:Nm):Nm:=match h_ x n with
 | some t=>t.ia
 | none=>[]
def upN (x:List aJ):Nat→Nm→Nm
 | 0,a=>a
 | m+1,a=>cond (seq a []) [] (upN x m (z6 x a))
theorem agl (x:List aJ):∀ m,upN x m []=[]
 | 0=>rfl
 | _+1=>rfl
def vX (x:List aJ) (m:Nat) (a:Nm):Bool:=seq (upN x m a) []
def known (x:List aJ) (n:Nm):Bool:=seq n []||(h_ x n).isSome
def xh (x:List aJ) (q:Option aJ) (t:aJ):Bool:=Bk (q.map (·.Name)) t.Name&&known x t.ia
def Ix (x:List aJ):Bool:=b8 (x.length:Int) 12&&(chain (xh x) none x&&x.all fun t=>vX x 4 t.ia)
theorem Iy {k:Nat} {x:List aJ} {n:Nm} (hk:4194304≤k) (hx:x.length≤1048576):lM k x n=some (h_ x n).isSome:=by
 unfold lM;simp only [share];have h:=J8 (R:=Option Bool) (x:=x) (p:=fun t=>seq t.Name n) (B:=0) (l:=fun k i=>iter (ts:=zI) (R:=Bool) k (su (some false)) x n i) (E:=some false) (O:=fun _=>some true)
  (fun k=>by simp only [iter,su,ck,cond_false]<;>rfl)
  (fun k i hi _=>by simp only [iter,su,cf hi,bM hi,cond_true,bL,bR hi,bQ hx hi]<;>rfl) k (by omega)
 refine h.trans ?_;unfold h_;cases x.find? fun t=>seq t.Name n<;>rfl
theorem Su {k:Nat} {x:List aJ} {n:Nm} (hk:4194304≤k) (hx:x.length≤1048576):vO k x n=some (z6 x n):=by
 unfold vO;simp only [share];have h:=J8 (R:=Option (List UInt8)) (x:=x) (p:=fun t=>seq t.Name n) (B:=0) (l:=fun k i=>iter (ts:=zJ) (R:=List UInt8) k (sv (some [])) x n i) (E:=some []) (O:=fun t=>some t.ia)
  (fun k=>by simp only [iter,sv,ck,cond_false]<;>rfl)
  (fun k i hi _=>by simp only [iter,sv,cf hi,bM hi,cond_true,bL,bR hi,bQ hx hi]<;>rfl) k (by omega)
 refine h.trans ?_;unfold z6 h_;cases x.find? fun t=>seq t.Name n<;>rfl
theorem abu {x:List aJ} {J:List aJ→Int→Nm→Option Bool} {i:Int} (hx:x.length≤1048576):∀ (m j k:Nat) (a:Nm),j+m=5→4194304+m+1≤k→
  iter (ts:=rE) (R:=Bool) k (ju J) x i a (j:Int)=J x i (upN x m a):=by
 intro m
 induction m with
 | zero=>
  intro j k a h hk;obtain rfl:j=5:=by omega
  obtain ⟨k,rfl⟩:∃ q,k=q+1:=⟨k-1,by omega⟩;simp only [iter,ju,St (show ¬ ((5:Nat):Int)≤(4:Int) by omega),cond_false]<;>rfl
 | succ m ih=>
  intro j k a h hk;obtain ⟨k,rfl⟩:∃ q,k=q+1:=⟨k-1,by omega⟩;simp only [iter,ju,C8 (show ((j:Nat):Int)≤4 by omega),cond_true,upN,Su (show 4194304≤k by omega) hx,Option.bind_some];cases h1:seq a [] with
  | true=>rw [eP.1 h1];rfl
  | false=>
   simp only [Bool.not_false,cond_true,cond_false,bQ (n:=5) (by omega) (show j < 5 by omega)];exact ih (j+1) k _ (by omega) (by omega)
theorem MM {k:Nat} {x:List aJ} (hk:4194304*3≤k) (hx:lE aJ.sd x):lj k x=some (b8 (x.length:Int) 12&&(chain (xh x) none x&&x.all fun t=>vX x 5 t.Name)):=by
 unfold lj;have h:=fE (R:=Option Bool) (x:=x) (p:=fun o t=>xh x o t&&vX x 5 t.Name) (B:=4194304*2) (l:=fun k i=>iter (ts:=eX) (R:=Bool) k (dS (some true)) x i) (E:=some true) (O:=some false)
  (fun k=>by simp only [iter,dS,ck,cond_false]<;>rfl)
  (fun k i hi hb=>by
   have hti:=hx.2 _ (dJ hi);simp only [iter,dS,share,cf hi,bM hi,cond_true,bL,bR hi,ez (show 4194304≤k by omega) hti.1,Iy (show 4194304≤k by omega) hx.1,Option.bind_some,xh,Bk,known];have up:=abu (J:=fun agx agy agz=>cond (!seq agz ([]:List UInt8)) (some false) (iter (ts:=eX) (R:=Bool) k (dS (some true)) agx (aP .i64 agy (1:Int)))) (i:=(i:Int)) hx.1 5 0 k x[i].Name (by omega) (by omega);rw [bQ hx.1 hi] at up;have up':=up.trans (show cond (!vX x 5 x[i].Name) (some false) (iter (ts:=eX) (R:=Bool) k (dS (some true)) x ((i+1:Nat):Int))=cond (vX x 5 x[i].Name) (iter (ts:=eX) (R:=Bool) k (dS (some true)) x ((i+1:Nat):Int)) (some false) by cases vX x 5 x[i].Name<;>rfl);cases cB x[i].Name with
   | false=>rfl
   | true=>
    rcases Nat.eq_zero_or_pos i with rfl | h0
    ·simp only [sZ,mm];cases seq x[0].ia [] with
     | true=>exact up'
     | false=>
      cases (h_ x x[0].ia).isSome with
      | false=>rfl
      | true=>exact up'
    ·have di:i-1 < x.length:=by omega
     simp only [z0 h0,q9 h0 (by have:=hx.1;omega),bM di,cond_true,bL,bR di,mn h0 hi,Option.map_some];cases slt x[i-1].Name x[i].Name with
     | false=>rfl
     | true=>
      cases seq x[i].ia [] with
      | true=>exact up'
      | false=>
       cases (h_ x x[i].ia).isSome with
       | false=>rfl
       | true=>exact up') k (by have:=hx.1;omega)
 rw [uC,uD] at h;simp only [share,cL];cases b8 (x.length:Int) 12 with
 | false=>rfl
 | true=>exact h.trans (by cases chain (xh x) none x&&x.all fun t=>vX x 5 t.Name<;>rfl)
theorem UH {x:List aJ} {o:Option aJ} {y:List aJ}:chain (xh x) o y=(chain Bk (o.map (·.Name)) (y.map (·.Name))&&y.all fun t=>known x t.ia):=by
 unfold xh;rw [uC,uD,J4]
theorem Xu {x:List aJ} (h:chain (xh x) none x=true) {t:aJ} (ht:t∈x):h_ x t.Name=some t:=by
 rw [UH] at h;have AF:=(J9 (Bool.and_eq_true_iff.1 h).1).1;clear h;unfold h_
 induction x with
 | nil=>cases ht
 | cons a r ih=>
  simp only [List.map_cons,List.nodup_cons] at AF;rw [List.find?_cons];rcases List.mem_cons.1 ht with e | e
  ·subst e;rw [show seq t.Name t.Name=true from eP.2 rfl]
  ·cases ha:seq a.Name t.Name with
   | true=>
    have hm:t.Name∈r.map (·.Name):=List.mem_map_of_mem e;rw [← eP.1 ha] at hm;exact absurd hm AF.1
   | false=>exact ih e AF.2
theorem MN {x:List aJ}:∀ {y:List aJ} {o:Option aJ},chain (xh x) o y=true→∀ t,t∈y→cB t.Name=true∧known x t.ia=true
 | [],_,_,_,h=>by cases h
 | a::r,o,h,t,ht=>by
  simp only [chain,Bool.and_eq_true] at h;rcases List.mem_cons.1 ht with e | e
  ·subst e;simp only [xh,Bk,Bool.and_eq_true] at h;exact ⟨h.1.1.1,h.1.2⟩
  ·exact MN h.2 t e
theorem UI (x:List aJ):(chain (xh x) none x&&x.all fun t=>vX x 5 t.Name)=(chain (xh x) none x&&x.all fun t=>vX x 4 t.ia):=by
 cases h:chain (xh x) none x with
 | false=>rfl
 | true=>
  rw [Bool.true_and,Bool.true_and];rw [Bool.eq_iff_iff,List.all_eq_true,List.all_eq_true];have key:∀ t,t∈x→vX x 5 t.Name=vX x 4 t.ia:=fun t ht=>by
   unfold vX;have qL:seq t.Name []=false:=by
    cases e:seq t.Name [] with
    | false=>rfl
    | true=>have:=PJ e;rw [(MN h t ht).1] at this;cases this
   rw [upN,qL,cond_false,z6,Xu h ht]
  exact ⟨fun h t ht=>by rw [← key t ht];exact h t ht,fun h t ht=>by rw [key t ht];exact h t ht⟩
theorem Pa {k:Nat} {x:List aJ} (hk:4194304*3≤k) (hx:lE aJ.sd x):lj k x=some (Ix x):=by
 rw [MM hk hx,UI];rfl
theorem yL {k:Nat} {x:List aJ} {n:Nm} (hk:4194304≤k) (hx:x.length≤1048576):hP k x n=some (uE (fun t=>seq t.Name n) x 0):=by
 unfold hP;simp only [share];exact m9 (x:=x) (p:=fun t=>seq t.Name n) (l:=fun k i=>iter (ts:=zQ) (R:=Int) k (sL (some (-1))) n x (x.length:Int) i)
  (fun k=>by simp only [iter,sL,ck,cond_false]<;>rfl)
  (fun k i hi=>by simp only [iter,sL,cf hi,bM hi,cond_true,bL,bR hi,bQ hx hi]<;>rfl) k (by omega)
theorem abv {x:List aJ} {J:List aJ→List aJ→Int→Int→Option Bool} {c d:Int} (hx:x.length≤1048576) (YS:∀ t,t∈x→known x t.ia=true):∀ (m j k:Nat) (a:Nm),j+m=4→4194304+m+1≤k→known x a=true→
  iter (ts:=rI) (R:=Bool) k (jA J) x (j:Int) a x c d=cond (vX x m a) (J x x c d) (some false):=by
 intro m
 induction m with
 | zero=>
  intro j k a h hk ha;obtain rfl:j=4:=by omega
  obtain ⟨k,rfl⟩:∃ q,k=q+1:=⟨k-1,by omega⟩;simp only [iter,jA,vX,upN,show bK 4 (aP .i64 ((4:Nat):Int) 1)=true from rfl,cond_true];cases seq a []<;>rfl
 | succ m ih=>
  intro j k a h hk ha;obtain ⟨k,rfl⟩:∃ q,k=q+1:=⟨k-1,by omega⟩;simp only [iter,jA,vX,upN,bQ (n:=4) (by omega) (show j < 4 by omega),dz (show ¬ (4:Int) < ((j+1:Nat):Int) by omega),cond_false,yL (show 4194304≤k by omega) hx,Option.bind_some];cases h1:seq a [] with
  | true=>rfl
  | false=>
   simp only [known,h1,Bool.false_or,h_] at ha;rcases eJ (fun t:aJ=>seq t.Name a) x with ⟨k1,k2⟩ | ⟨q,hq,k1,k2,_⟩
   ·rw [k2] at ha;cases ha
   ·rw [k1,bM hq,bR hq];simp only [Bool.not_false,cond_true,cond_false,bL,z6,h_,k2];exact ih (j+1) k _ (by omega) (by omega) (YS _ (dJ hq))
theorem Pb {k:Nat} {x:List aJ} (hk:4194304*3≤k) (hx:lE aJ.sd x):oZ k x=some (Ix x):=by
 unfold oZ Ix;have h4:=fun J:List aJ→Option Bool=>fE (R:=Option Bool) (x:=x) (p:=xh x) (B:=4194304*2) (l:=fun k i=>iter (ts:=sM) (R:=Bool) k (kC J) x x (x.length:Int) i) (E:=J x) (O:=some false)
  (fun k=>by simp only [iter,kC,ck,cond_false]<;>rfl)
  (fun k i hi hb=>by
   have hti:=hx.2 _ (dJ hi);simp only [iter,kC,share,cf hi,bM hi,cond_true,bL,bR hi,f_ (show 4194304≤k by omega) hti.1,yL (show 4194304≤k by omega) hx.1,Option.bind_some,xh,Bk,known,h_];rw [bQ hx.1 hi];have ep:bK (uE (fun t:aJ=>seq t.Name x[i].ia) x 0) 0=!(x.find? fun t=>seq t.Name x[i].ia).isSome:=by
    rcases eJ (fun t:aJ=>seq t.Name x[i].ia) x with ⟨k1,k2⟩ | ⟨q,hq,k1,k2,_⟩
    ·rw [k1,k2];rfl
    ·rw [k1,k2,dz (by omega)];rfl
   rw [ep];cases cB x[i].Name with
   | false=>rfl
   | true=>
    rcases Nat.eq_zero_or_pos i with rfl | h0
    ·simp only [sZ,mm];cases seq x[0].ia []<;>cases (x.find? fun t=>seq t.Name x[0].ia).isSome<;>rfl
    ·have di:i-1 < x.length:=by omega
     simp only [z0 h0,q9 h0 (by have:=hx.1;omega),bM di,cond_true,bL,bR di,mn h0 hi,Option.map_some];cases slt x[i-1].Name x[i].Name<;>cases seq x[i].ia []<;>cases (x.find? fun t=>seq t.Name x[i].ia).isSome<;>rfl) k (by have:=hx.1;omega)
 simp only [share,cL];cases b8 (x.length:Int) 12 with
 | false=>rfl
 | true=>
  refine (h4 _).trans ?_;cases hc:chain (xh x) none x with
  | false=>rfl
  | true=>
   have YS:∀ t,t∈x→known x t.ia=true:=fun t ht=>(MN hc t ht).2;have h10:=gN (R:=Option Bool) (x:=x) (p:=fun t=>vX x 4 t.ia) (B:=4194304*2) (l:=fun k i=>iter (ts:=rJ) (R:=Bool) k (jB (some true)) x x (x.length:Int) i) (E:=some true) (O:=some false)
    (fun k=>by simp only [iter,jB,ck,cond_false]<;>rfl)
    (fun k i hi hb=>by
     simp only [iter,jB,share,cf hi,bM hi,cond_true,bL,bR hi];refine (abv hx.1 YS 4 0 k _ (by omega) (by omega) (YS _ (dJ hi))).trans ?_;rw [bQ hx.1 hi]) k (by have:=hx.1;omega)
   exact h10.trans (by cases x.all fun t=>vX x 4 t.ia<;>rfl)
theorem ahA (c x:Bool):cond c (some x) (some false)=some (c&&x):=by cases c<;>rfl
def GI (o:Option Int) (v:Int):Bool:=(b8 1 v&&b8 v 5)&&(match o with | none=>true | some p=>bK p v)
def B9 (n:Nm):Bool:=seq n []||cB n
def Ap (r:bG):Bool:=!bH (r.b_.length:Int) 0&&(b8 (r.cU.length:Int) 16&&(B9 r.Kind&&(B9 r.aX&&(chain GI none r.b_&&r.cU.all nb))))
theorem QP {k:Nat} {r:bG} (hk:4194304*2≤k) (hr:r.sd):jK k r=some (Ap r):=by
 obtain ⟨h1,h2,h3,h4⟩:=hr;unfold jK;have h9:=gN (R:=Option Bool) (x:=r.cU) (p:=nb) (B:=0) (l:=fun k i=>iter (ts:=pC) (R:=Bool) k (ll (some true)) r i) (E:=some true) (O:=some false)
  (fun k=>by simp only [iter,ll,ck,cond_false]<;>rfl)
  (fun k i hi _=>by
   simp only [iter,ll,cf hi,bM hi,cond_true,bL,yK hi,Ss,Option.bind_some,bQ h4 hi];cases nb r.cU[i]<;>rfl) k (by simp only [dt] at h4;omega)
 have h5:=fun J:bG→Option Bool=>fE (R:=Option Bool) (x:=r.b_) (p:=GI) (B:=0) (l:=fun k i=>iter (ts:=pD) (R:=Bool) k (ln J) r i) (E:=J r) (O:=some false)
  (fun k=>by simp only [iter,ln,ck,cond_false]<;>rfl)
  (fun k i hi _=>by
   simp only [iter,ln,share,cf hi,bM hi,cond_true,bL,bR hi,LO,Option.bind_some,bQ h1.1 hi,GI];rcases Nat.eq_zero_or_pos i with rfl | h0
   ·simp only [sZ,mm];cases b8 1 r.b_[0]&&b8 r.b_[0] 5<;>rfl
   ·have di:i-1 < r.b_.length:=by omega
    simp only [z0 h0,q9 h0 (by have:=h1.1;omega),bM di,cond_true,bL,bR di,mn h0 hi,cL];cases b8 1 r.b_[i]&&b8 r.b_[i] 5<;>cases b8 r.b_[i] r.b_[i-1]<;>rfl) k (by have:=h1.1;omega)
 have go:cond false (some false) (iter (ts:=pD) (R:=Bool) k (ln fun v38=>iter (ts:=pC) (R:=Bool) k (ll (some true)) v38 (0:Int)) r (0:Int))=some (chain GI none r.b_&&r.cU.all nb):=by
  refine (h5 _).trans ?_;cases chain GI none r.b_ with
  | false=>rfl
  | true=>exact h9.trans (by cases r.cU.all nb<;>rfl)
 simp only [share,ez (show 4194304≤k by omega) h2,ez (show 4194304≤k by omega) h3,Option.bind_some,Ap,B9,cL];cases bH (r.b_.length:Int) 0 with
 | true=>rfl
 | false=>
  cases b8 (r.cU.length:Int) 16 with
  | false=>rfl
  | true=>
   cases seq r.Kind []<;>cases cB r.Kind<;>cases seq r.aX []<;>cases cB r.aX<;>first | rfl | exact go
theorem QQ {k:Nat} {r:bG} (hk:4194304*2≤k) (hr:r.sd):fC k r=some (Ap r):=by
 obtain ⟨h1,h2,h3,h4⟩:=hr;unfold fC;have h5:=fE (R:=Option Bool) (x:=r.b_) (p:=GI) (B:=0) (l:=fun k i=>iter (ts:=mh) (R:=Bool) k (gM (some true)) r r.b_ (r.b_.length:Int) i) (E:=some true) (O:=some false)
  (fun k=>by simp only [iter,gM,ck,cond_false]<;>rfl)
  (fun k i hi _=>by
   simp only [iter,gM,share,cf hi,bM hi,cond_true,bL,bR hi,Option.bind_some,bQ h1.1 hi,GI];rcases Nat.eq_zero_or_pos i with rfl | h0
   ·simp only [sZ,mm];rw [cL r.b_[0],cL 5];cases b8 1 r.b_[0]<;>cases b8 r.b_[0] 5<;>rfl
   ·have di:i-1 < r.b_.length:=by omega
    simp only [z0 h0,q9 h0 (by have:=h1.1;omega),bM di,cond_true,bL,bR di,mn h0 hi];rw [cL r.b_[i],cL 5,cL r.b_[i-1]];cases b8 1 r.b_[i]<;>cases b8 r.b_[i] 5<;>cases b8 r.b_[i] r.b_[i-1]<;>rfl) k (by have:=h1.1;omega)
 have go:iter (ts:=mh) (R:=Bool) k (gM (some true)) r r.b_ (r.b_.length:Int) (0:Int)=some (chain GI none r.b_):=h5.trans (by cases chain GI none r.b_<;>rfl);simp only [share,f_ (show 4194304≤k by omega) h2,f_ (show 4194304≤k by omega) h3,K9 (show 4194304≤k by omega) h4,Option.bind_some,Ap,B9,cL];cases bH (r.b_.length:Int) 0 with
 | true=>rfl
 | false=>
  cases b8 (r.cU.length:Int) 16<;>cases seq r.Kind []<;>cases cB r.Kind<;>cases seq r.aX []<;>cases cB r.aX<;>cases r.cU.all nb<;>first | rfl | (refine Eq.trans ?_ (show some (chain GI none r.b_&&false)=_ from rfl);rw [Bool.and_false];rfl) | (refine Eq.trans go ?_;simp)
def val:List UInt8→Int→Option Int
 | [],a=>some a
 | c::r,a=>if 48≤bt c∧bt c≤57 then val r (a*10+(bt c-48)) else none
theorem MO:∀ {s:List UInt8} {a v:Int},0≤a→val s a=some v→0≤v
 | [],a,v,h,e=>by simp only [val] at e;cases e;exact h
 | c::r,a,v,h,e=>by
  simp only [val] at e;split at e
  ·exact MO (by omega) e
  ·cases e
theorem Zj:∀ {s:List UInt8} {a v:Int},0≤a→val s a=some v→v < (a+1)*10 ^ s.length
 | [],a,v,h,e=>by simp only [val] at e;cases e;simp only [List.length_nil,Int.pow_zero];omega
 | c::r,a,v,h,e=>by
  simp only [val] at e;split at e
  ·have:=Zj (by omega) e;refine Int.lt_of_lt_of_le this ?_;rw [List.length_cons,Int.pow_succ,Int.mul_comm (10 ^ r.length) 10,← Int.mul_assoc];exact Int.mul_le_mul_of_nonneg_right (by omega) (Int.pow_nonneg (by omega))
  ·cases e
def num (s:List UInt8):Option Int:=if 1≤s.length∧s.length≤7∧(1 < s.length→bt (s.getD 0 0)≠48) then val s 0 else none
theorem E_ {s:List UInt8} {v:Int} (h:num s=some v):0≤v∧v < 10000000:=by
 unfold num at h;split at h
 ·rename_i hc;have h1:=MO (by omega) h;have h2:=Zj (by omega) h;have h3:(10:Int) ^ s.length≤10 ^ 7:=by
   have:(10:Nat) ^ s.length≤10 ^ 7:=Nat.pow_le_pow_right (by omega) hc.2.1
   exact_mod_cast this
  omega
 ·cases h
def vOr {R:Type} (J:Int→Option R) (r:R):Option Int→Option R
 | some v=>J v
 | none=>some r
theorem Sv {s:List UInt8} {i:Nat} {a:Int} (hi:i < s.length):val (s.drop i) a=if 48≤bt s[i]∧bt s[i]≤57 then val (s.drop (i+1)) (a*10+(bt s[i]-48)) else none:=by
 rw [List.drop_eq_getElem_cons hi];rfl
theorem MP {s:List UInt8} {J:Int→Option Int}:∀ (m i k:Nat) (a:Int),i+m=s.length→m < k→s.length≤7→0≤a→a < 10 ^ i→
  iter (ts:=wZ) (R:=Int) k (oQ J) s a (i:Int)=vOr J (-1) (val (s.drop i) a)
 | _,_,0,_,_,h,_,_,_=>by omega
 | 0,i,k+1,a,h,_,h7,h0,ha=>by
  obtain rfl:i=s.length:=by omega
  simp only [iter,oQ,ck,cond_false,List.drop_length,val,vOr]<;>rfl
 | m+1,i,k+1,a,h,hk,h7,h0,ha=>by
  have hi:i < s.length:=by omega
  have hr:=MK s[i];simp only [iter,oQ,share,cf hi,bM hi,cond_true,bL,yK hi];rw [Sv hi];by_cases c1:bt s[i] < 48
  ·rw [hY c1,if_neg (by omega)];rfl
  ·by_cases c2:57 < bt s[i]
   ·rw [dz c1,hY c2,if_neg (by omega)];rfl
   ·rw [dz c1,dz c2,if_pos (by omega)];have agA:(10:Int) ^ i≤10 ^ 7:=by
     have:(10:Nat) ^ i≤10 ^ 7:=Nat.pow_le_pow_right (by omega) (by omega)
     exact_mod_cast this
    have e1:Xn .i64 a 10=a*10:=vg (by omega) (by omega);have e2:zu .i64 (bt s[i])=bt s[i]:=vg (by omega) (by omega);simp only [cond_false,e1,e2];rw [t_ (by omega) (by omega),Sr (by omega) (by omega),bQ (n:=s.length) (by omega) hi,show a*10+bt s[i]-48=a*10+(bt s[i]-48) by omega];exact MP m (i+1) k _ (by omega) (by omega) h7 (by omega) (by rw [Int.pow_succ];omega)
theorem PN {s:List UInt8} {J:Int→Option (Int×Bool)}:∀ (m i k:Nat) (a:Int),i+m=s.length→m < k→s.length≤7→0≤a→a < 10 ^ i→
  iter (ts:=yp) (R:=Int×Bool) k (qy J) s a (s.length:Int) (i:Int)=vOr J (0,false) (val (s.drop i) a)
 | _,_,0,_,_,h,_,_,_=>by omega
 | 0,i,k+1,a,h,_,h7,h0,ha=>by
  obtain rfl:i=s.length:=by omega
  simp only [iter,qy,ck,cond_false,List.drop_length,val,vOr]<;>rfl
 | m+1,i,k+1,a,h,hk,h7,h0,ha=>by
  have hi:i < s.length:=by omega
  have hr:=MK s[i];simp only [iter,qy,share,cf hi,bM hi,cond_true,bL,yK hi];rw [Sv hi];by_cases c1:bt s[i] < 48
  ·rw [hY c1,if_neg (by omega)];rfl
  ·by_cases c2:57 < bt s[i]
   ·rw [dz c1,hY c2,if_neg (by omega)];rfl
   ·rw [dz c1,dz c2,if_pos (by omega)];have agA:(10:Int) ^ i≤10 ^ 7:=by
     have:(10:Nat) ^ i≤10 ^ 7:=Nat.pow_le_pow_right (by omega) (by omega)
     exact_mod_cast this
    have e1:Xn .i64 a 10=a*10:=vg (by omega) (by omega);have e0:bO .u8 (bt s[i]) 48=bt s[i]-48:=wrap_u8 (by omega) (by omega);have e2:zu .i64 (bt s[i]-48)=bt s[i]-48:=vg (by omega) (by omega);simp only [cond_false,e0,e1,e2];rw [t_ (by omega) (by omega),bQ (n:=s.length) (by omega) hi];exact PN m (i+1) k _ (by omega) (by omega) h7 (by omega) (by rw [Int.pow_succ];omega)
theorem MQ {k:Nat} (s:List UInt8) (hk:4194304≤k):pX k s=some ((num s).getD (-1)):=by
 unfold pX;simp only [share,LO,Option.bind_some];by_cases h1:1≤s.length
 ·by_cases h7:s.length≤7
  ·have loop:=MP (s:=s) (J:=fun v=>some v) s.length 0 k 0 (by omega) (by omega) h7 (by omega) (by decide);rw [List.drop_zero,Int.natCast_zero] at loop;rw [C8 (by omega),C8 (by omega)];simp only [Bool.and_true,Bool.not_true,cond_false,loop];by_cases h2:1 < s.length
   ·rw [hY (by omega),Iv (by omega) (by omega)];have e0:AI s 0=bt (s.getD 0 0):=rfl;simp only [cond_true,bL,e0];by_cases h3:bt (s.getD 0 0)=48
    ·rw [h3,num,if_neg (fun h=>h.2.2 h2 h3)];rfl
    ·rw [show bH (bt (s.getD 0 0)) 48=false by simpa [bH] using h3,num,if_pos ⟨h1,h7,fun _=>h3⟩];cases val s 0<;>rfl
   ·rw [dz (by omega),num,if_pos ⟨h1,h7,fun h=>absurd h h2⟩];cases val s 0<;>rfl
  ·rw [C8 (by omega),St (by omega),num,if_neg (by omega)];rfl
 ·rw [St (by omega),num,if_neg (by omega)];rfl
theorem PO {k:Nat} (s:List UInt8) (hk:4194304≤k):sE k s=some (match num s with | some v=>(v,true) | none=>(0,false)):=by
 unfold sE;simp only [share];by_cases h1:s.length < 1
 ·rw [hY (by omega),num,if_neg (by omega)];rfl
 ·rw [dz (by omega)];by_cases h7:7 < s.length
  ·rw [hY (by omega),num,if_neg (by omega)];rfl
  ·have loop:=PN (s:=s) (J:=fun v=>some (v,true)) s.length 0 k 0 (by omega) (by omega) (by omega) (by omega) (by decide);rw [List.drop_zero,Int.natCast_zero] at loop;have e0:AI s 0=bt (s.getD 0 0):=rfl;rw [dz (by omega),Iv (by omega) (by omega)];simp only [cond_false,bL,e0,loop];by_cases h3:bt (s.getD 0 0)=48
   ·rw [show bH (bt (s.getD 0 0)) 48=true by simpa [bH] using h3];by_cases h2:1 < s.length
    ·rw [hY (by omega),num,if_neg (fun h=>h.2.2 h2 h3)];rfl
    ·rw [dz (by omega),num,if_pos ⟨by omega,by omega,fun h=>absurd h h2⟩];cases val s 0<;>rfl
   ·rw [show bH (bt (s.getD 0 0)) 48=false by simpa [bH] using h3,num,if_pos ⟨by omega,by omega,fun _=>h3⟩];cases val s 0<;>rfl
theorem QR {k:Nat} {xs:List (List UInt8)} {s:List UInt8} (hk:4194304≤k) (hx:xs.length≤1048576):nX k xs s=some (xs.any fun y=>seq y s):=by
 unfold nX;have h:=Iw (x:=xs) (p:=fun y=>seq y s) (B:=0) (l:=fun k i=>iter (ts:=AJ) (R:=Bool) k (uV (some false)) xs s i) (E:=some false) (O:=some true)
  (fun k=>by simp only [iter,uV,ck,cond_false]<;>rfl)
  (fun k i hi _=>by simp only [iter,uV,cf hi,bM hi,cond_true,bL,bR hi,bQ hx hi]<;>rfl) k (by omega)
 simp only [share];exact h.trans (by cases xs.any fun y=>seq y s<;>rfl)
theorem z7 {k:Nat} {f:aC} {s:List UInt8} (hk:4194304≤k) (hx:f.Words.length≤1048576):kz k ⟨f⟩ s=some (f.Words.any fun y=>seq y s):=by
 unfold kz;have h:=Iw (x:=f.Words) (p:=fun y=>seq y s) (B:=0) (l:=fun k i=>iter (ts:=px) (R:=Bool) k (g8 (some false)) s f.Words (f.Words.length:Int) i) (E:=some false) (O:=some true)
  (fun k=>by simp only [iter,g8,ck,cond_false]<;>rfl)
  (fun k i hi _=>by simp only [iter,g8,cf hi,bM hi,cond_true,bL,bR hi,bQ hx hi]<;>rfl) k (by omega)
 simp only [share];exact h.trans (by cases f.Words.any fun y=>seq y s<;>rfl)
def seen (c:UInt8):Bool:=b8 33 (bt c)&&b8 (bt c) 126
def QS (f:aC) (s:List UInt8):Bool:=(b8 f.bS (s.length:Int)&&b8 (s.length:Int) f.bT)&&s.all seen
theorem z8 {k:Nat} {f:aC} {s:List UInt8} (hk:4194304≤k) (hs:dt s):ky k ⟨f⟩ s=some (QS f s):=by
 unfold ky QS;have h:=gN (x:=s) (p:=seen) (B:=0) (l:=fun k i=>iter (ts:=pw) (R:=Bool) k (g7 (some true)) s (s.length:Int) i) (E:=some true) (O:=some false)
  (fun k=>by simp only [iter,g7,ck,cond_false]<;>rfl)
  (fun k i hi _=>by
   simp only [iter,g7,share,cf hi,bM hi,cond_true,bL,yK hi,bQ hs hi,seen,cL (bt s[i]),cL 126];cases b8 33 (bt s[i])<;>cases b8 (bt s[i]) 126<;>rfl) k (by have:s.length≤1048576:=hs;omega)
 simp only [share,h,cL];cases b8 f.bS (s.length:Int)<;>cases b8 (s.length:Int) f.bT<;>cases s.all seen<;>rfl
def inR (f:aC):Option Int→Bool
 | some v=>b8 f.bS v&&b8 v f.bT
 | none=>false
def fits (f:aC) (s:List UInt8):Bool:=cond (bH f.Kind 1) (inR f (num s)) (cond (bH f.Kind 2) (!seq s []&&f.Words.any fun y=>seq y s) (cond (bH f.Kind 3) (!seq s []&&QS f s) (cond (bH f.Kind 4) (cB s) false)))
theorem Zk (c:UInt8):zu .i64 (bt c)=bt c:=by have:=MK c;exact vg (by omega) (by omega)
theorem Hk {k:Nat} {f:aC} {s:List UInt8} (hk:4194304≤k) (hf:f.Words.length≤1048576) (hs:dt s):mY k f s=some (fits f s):=by
 unfold mY fits;have h:=fun J=>gN (x:=s) (p:=seen) (B:=0) (l:=fun k i=>iter (ts:=w6) (R:=Bool) k (oR J) s f i) (E:=J s f) (O:=some false)
  (fun k=>by simp only [iter,oR,ck,cond_false]<;>rfl)
  (fun k i hi _=>by
   simp only [iter,oR,cf hi,bM hi,cond_true,bL,yK hi,bQ hs hi,LO,Option.bind_some,Zk,seen];cases b8 33 (bt s[i])<;>cases b8 (bt s[i]) 126<;>rfl) k (by have:s.length≤1048576:=hs;omega)
 simp only [share,h,MQ s hk,QR hk hf,ez hk hs,LO,Option.bind_some];cases bH f.Kind 1 with
 | true=>
  cases hn:num s with
  | none=>rfl
  | some v=>
   have:=E_ hn;simp only [Option.getD_some,cond_true,C8 this.1,inR]
 | false=>
  cases bH f.Kind 2 with
  | true=>cases seq s []<;>rfl
  | false=>
   cases bH f.Kind 3 with
   | true=>
    simp only [cond_true,cond_false,QS];cases s.all seen<;>cases seq s []<;>cases b8 f.bS (s.length:Int)<;>cases b8 (s.length:Int) f.bT<;>rfl
   | false=>cases bH f.Kind 4<;>rfl
theorem adz {s:List UInt8} (h:seq s []=true):num s=none:=by
 have e:s=[]:=by simpa [seq] using h
 subst e;rfl
theorem vh {k:Nat} {f:aC} {s:List UInt8} (hk:4194304≤k):iH k ⟨f⟩ s=some (inR f (num s)):=by
 unfold iH;simp only [PO s hk,Option.bind_some];cases num s with
 | none=>rfl
 | some v=>simp only [inR,cond_true];cases b8 f.bS v<;>rfl
theorem uF {k:Nat} {f:aC} {s:List UInt8} (hk:4194304≤k) (hf:f.Words.length≤1048576) (hs:dt s):fQ k f s=some (fits f s):=by
 unfold fQ vR vc u_ u9 u7 fits pG;cases bH f.Kind 1 with
 | true=>
  simp only [cond_true,Option.bind_some,yr,vh hk,z7 hk hf,z8 hk hs,f_ hk hs];cases he:seq s [] with
  | true=>rw [adz he];rfl
  | false=>rfl
 | false=>
  simp only [cond_false];cases bH f.Kind 2 with
  | true=>simp only [cond_true,Option.bind_some,yr,vh hk,z7 hk hf,z8 hk hs,f_ hk hs];cases seq s []<;>rfl
  | false=>
   simp only [cond_false];cases bH f.Kind 3 with
   | true=>simp only [cond_true,Option.bind_some,yr,vh hk,z7 hk hf,z8 hk hs,f_ hk hs];cases seq s []<;>rfl
   | false=>
    simp only [cond_false];cases bH f.Kind 4 with
    | true=>
     simp only [cond_true,Option.bind_some,yr,vh hk,z7 hk hf,z8 hk hs,f_ hk hs];cases he:seq s [] with
     | true=>rw [PJ he];rfl
     | false=>rfl
    | false=>rfl
theorem GJ {k:Nat} {xs:List (List UInt8)} (hk:8388608≤k) (hx:lE dt xs):lh k xs=some (q_ xs):=by
 unfold lh;have h:=fE (x:=xs) (p:=Bk) (B:=4194304) (l:=fun k i=>iter (ts:=sn) (R:=Bool) k (kq (some true)) xs i) (E:=some true) (O:=some false)
  (fun k=>by simp only [iter,kq,ck,cond_false]<;>rfl)
  (fun k i hi hb=>by
   simp only [iter,kq,share,cf hi,bM hi,cond_true,bL,bR hi,ez hb (hx.2 _ (dJ hi)),Option.bind_some,bQ hx.1 hi];rcases Nat.eq_zero_or_pos i with rfl | h0
   ·simp only [sZ,mm,Bk];cases cB xs[0]<;>rfl
   ·have di:i-1 < xs.length:=by omega
    simp only [z0 h0,q9 h0 (by have:=hx.1;omega),bM di,cond_true,bL,bR di,mn h0 hi,Bk];cases cB xs[i]<;>cases slt xs[i-1] xs[i]<;>rfl) k (by have:=hx.1;omega)
 simp only [share];exact h.trans (by unfold q_;cases chain Bk none xs<;>rfl)
theorem uG {k:Nat} {xs:List (List UInt8)} (hk:8388608≤k) (hx:lE dt xs):fg k xs=some (q_ xs):=by
 unfold fg;have h:=fE (x:=xs) (p:=Bk) (B:=4194304) (l:=fun k i=>iter (ts:=pv) (R:=Bool) k (g6 (some true)) xs xs (xs.length:Int) i) (E:=some true) (O:=some false)
  (fun k=>by simp only [iter,g6,ck,cond_false]<;>rfl)
  (fun k i hi hb=>by
   simp only [iter,g6,share,cf hi,bM hi,cond_true,bL,bR hi,f_ hb (hx.2 _ (dJ hi)),Option.bind_some,bQ hx.1 hi];rcases Nat.eq_zero_or_pos i with rfl | h0
   ·simp only [sZ,mm,Bk];cases cB xs[0]<;>rfl
   ·have di:i-1 < xs.length:=by omega
    simp only [z0 h0,q9 h0 (by have:=hx.1;omega),bM di,cond_true,bL,bR di,mn h0 hi,Bk];cases cB xs[i]<;>cases slt xs[i-1] xs[i]<;>rfl) k (by have:=hx.1;omega)
 simp only [share];exact h.trans (by unfold q_;cases chain Bk none xs<;>rfl)
def QT (to:List UInt8):List aD→Nat→Int
 | [],_=>-1
 | s::r,i=>cond (seq s.Kind to) (i:Int) (QT to r (i+1))
theorem Sw (to:List UInt8):∀ (xs:List aD) (i:Nat),b8 0 (QT to xs i)=xs.any fun s=>seq s.Kind to
 | [],i=>rfl
 | s::r,i=>by
  simp only [QT,List.any_cons];cases seq s.Kind to with
  | true=>exact C8 (by simp)
  | false=>exact Sw to r (i+1)
theorem PQ {xs:List aD} {to:List UInt8} (hx:xs.length≤1048576):∀ m i k:Nat,i+m=xs.length→m < k→
  iter (ts:=yg) (R:=Int) k (ql (some (-1))) xs to (i:Int)=some (QT to (xs.drop i) i)
 | _,_,0,_,h=>by omega
 | 0,i,k+1,h,_=>by
  obtain rfl:i=xs.length:=by omega
  simp only [iter,ql,ck,cond_false,List.drop_length,QT]<;>rfl
 | m+1,i,k+1,h,hk=>by
  have hi:i < xs.length:=by omega
  have ih:=PQ (to:=to) hx m (i+1) k (by omega) (by omega);simp only [iter,ql,cf hi,bM hi,cond_true,bL,bR hi,bQ hx hi];rw [List.drop_eq_getElem_cons hi];simp only [QT];cases seq xs[i].Kind to with
  | true=>rfl
  | false=>exact ih
theorem Fa {k:Nat} {xs:List aD} {to:List UInt8} (hk:4194304≤k) (hx:xs.length≤1048576):lY k xs to=some (QT to xs 0):=by
 unfold lY;simp only [share];exact PQ hx xs.length 0 k (by omega) (by omega)
def kinds (xs:List aD):List (List UInt8):=xs.map (·.Kind)
theorem Xv (xs:List aD) (to:List UInt8):(kinds xs).any (fun k=>seq k to)=xs.any fun s=>seq s.Kind to:=by simp only [kinds,List.any_map];rfl
def bare (f:aC):Bool:=
 cond (bH f.Kind 1) (bH (f.Words.length:Int) 0&&(seq f.To []&&bH f.cG 0))
 (cond (bH f.Kind 2) (bH f.bS 0&&(bH f.bT 0&&(seq f.To []&&(bH f.cG 0&&seq f.bE []))))
 (cond (bH f.Kind 3) (bH (f.Words.length:Int) 0&&(seq f.To []&&(bH f.cG 0&&seq f.bE [])))
 (cond (bH f.Kind 4) (bH f.bS 0&&(bH f.bT 0&&(bH (f.Words.length:Int) 0&&seq f.bE []))) false)))
def sound (ks:List (List UInt8)) (f:aC):Bool:=
 cond (bH f.Kind 1) (b8 0 f.bS&&(b8 f.bS f.bT&&(b8 f.bT 1000000&&(seq f.bE []||cB f.bE))))
 (cond (bH f.Kind 2) (b8 1 (f.Words.length:Int)&&(b8 (f.Words.length:Int) 6&&q_ f.Words))
 (cond (bH f.Kind 3) (b8 1 f.bS&&(b8 f.bS f.bT&&b8 f.bT 40))
 (cond (bH f.Kind 4) (ks.any (fun k=>seq k f.To)&&(b8 1 f.cG&&(b8 f.cG 3&&(seq f.Default []&&(!bH f.cG 2||!f.c6))))) false)))
def qM (ks:List (List UInt8)) (f:aC):Bool:=cB f.Name&&(bare f&&((seq f.Default []||fits f f.Default)&&sound ks f))
theorem K_ {m n c:Int} (h:bH m n=true) (hn:n≠c):bH m c=false:=by
 simp only [bH,beq_iff_eq] at h ⊢;rw [beq_eq_false_iff_ne,h];exact hn
theorem adA {f:aC} (h1:bH f.Kind 1=false) (h2:bH f.Kind 2=false) (h3:bH f.Kind 3=false) (h4:bH f.Kind 4=false):bare f=false:=by
 simp only [bare,h1,h2,h3,h4,cond_false]
theorem Zl (n:Nat):bK 0 (n:Int)=!bH (n:Int) 0:=by
 by_cases h:n=0
 ·subst h;rfl
 ·rw [hY (by omega),show bH (n:Int) 0=false by simp [bH];omega];rfl
theorem Zm (k:Nat) (f:aC) (ks:List (List UInt8)):∃ b,zH k f=some b∧(b&&sound ks f)=(bare f&&sound ks f):=by
 unfold zH;simp only [share,Zl];have key:∀ b:Bool,(sound ks f=true→b=bare f)→(b&&sound ks f)=(bare f&&sound ks f):=fun b h=>by
  cases hs:sound ks f with
  | true=>rw [h hs]
  | false=>simp
 cases h1:bH f.Kind 1 with
 | true=>
  have e2:=K_ h1 (c:=2) (by decide);have e4:=K_ h1 (c:=4) (by decide);refine ⟨bare f,?_,rfl⟩;simp only [e2,e4,bare,h1];cases bH (f.Words.length:Int) 0<;>cases seq f.To []<;>rfl
 | false=>
  cases h2:bH f.Kind 2 with
  | true=>
   have e3:=K_ h2 (c:=3) (by decide);have e4:=K_ h2 (c:=4) (by decide);refine ⟨bare f,?_,rfl⟩;simp only [e3,e4,bare,h1,h2];cases bH f.bS 0<;>cases bH f.bT 0<;>cases seq f.bE []<;>cases seq f.To []<;>cases bH f.cG 0<;>rfl
  | false=>
   cases h3:bH f.Kind 3 with
   | true=>
    have e4:=K_ h3 (c:=4) (by decide);refine ⟨bare f,?_,rfl⟩;simp only [e4,bare,h1,h2,h3];cases seq f.bE []<;>cases bH (f.Words.length:Int) 0<;>cases seq f.To []<;>cases bH f.cG 0<;>rfl
   | false=>
    cases h4:bH f.Kind 4 with
    | true=>
     refine ⟨bare f,?_,rfl⟩;simp only [bare,h1,h2,h3,h4];cases bH f.bS 0<;>cases bH f.bT 0<;>cases seq f.bE []<;>cases bH (f.Words.length:Int) 0<;>rfl
    | false=>
     have hs:sound ks f=false:=by simp only [sound,h1,h2,h3,h4,cond_false]
     rw [hs];cases bH f.bS 0<;>cases bH f.bT 0<;>cases seq f.bE []<;>cases bH (f.Words.length:Int) 0<;>cases seq f.To []<;>cases bH f.cG 0<;>exact ⟨_,rfl,by simp⟩
theorem Sx {k:Nat} {xs:List aD} {f:aC} (hk:8388608≤k) (hx:xs.length≤1048576) (hf:f.sd):so k xs f=some (qM (kinds xs) f):=by
 obtain ⟨f1,-,-,-,f5,-,-,-,-,f10,f11⟩:=hf;obtain ⟨b,V7,UJ⟩:=Zm k f (kinds xs);unfold so qM;simp only [share,LO,ez (show 4194304≤k by omega) f1,ez (show 4194304≤k by omega) f11,V7,Hk (show 4194304≤k by omega) f5.1 f10,GJ hk f5,Fa (show 4194304≤k by omega) hx,Option.bind_some,Sw,← Xv];have e:(bare f&&((seq f.Default []||fits f f.Default)&&sound (kinds xs) f))=(b&&((seq f.Default []||fits f f.Default)&&sound (kinds xs) f)):=by
  cases hs:sound (kinds xs) f with
  | false=>simp
  | true=>rw [hs] at UJ;simp only [Bool.and_true] at UJ ⊢;rw [UJ]
 rw [e];have fin:∀ c:Bool,cond c (some false) (cond (bH f.Kind 1) (cond (b8 0 f.bS) (cond (b8 f.bS f.bT) (cond (b8 f.bT 1000000) (cond (seq f.bE []) (some true) (some (cB f.bE))) (some false)) (some false)) (some false))
   (cond (bH f.Kind 2) (cond (b8 1 (f.Words.length:Int)&&b8 (f.Words.length:Int) 6) (some (q_ f.Words)) (some false))
   (cond (bH f.Kind 3) (cond (b8 1 f.bS) (cond (b8 f.bS f.bT) (some (b8 f.bT 40)) (some false)) (some false))
   (cond (bH f.Kind 4) (cond ((kinds xs).any fun k=>seq k f.To) (cond (b8 1 f.cG&&b8 f.cG 3) (cond (seq f.Default []) (cond (!bH f.cG 2) (some true) (some (!f.c6))) (some false)) (some false)) (some false)) (some false)))))=some (!c&&sound (kinds xs) f):=by
  intro c;cases c with
  | true=>rfl
  | false=>
   simp only [cond_false,Bool.not_false,Bool.true_and,sound];cases bH f.Kind 1 with
   | true=>cases b8 0 f.bS<;>cases b8 f.bS f.bT<;>cases b8 f.bT 1000000<;>cases seq f.bE []<;>rfl
   | false=>cases bH f.Kind 2 with
    | true=>cases b8 1 (f.Words.length:Int)<;>cases b8 (f.Words.length:Int) 6<;>rfl
    | false=>cases bH f.Kind 3 with
     | true=>cases b8 1 f.bS<;>cases b8 f.bS f.bT<;>rfl
     | false=>cases bH f.Kind 4 with
      | true=>cases (kinds xs).any fun k=>seq k f.To<;>cases b8 1 f.cG<;>cases b8 f.cG 3<;>cases seq f.Default []<;>cases bH f.cG 2<;>rfl
      | false=>rfl
 simp only [fin];cases cB f.Name<;>cases b<;>cases seq f.Default []<;>cases fits f f.Default<;>rfl
section
variable {α R:Type} {x:List α} {B:Nat}
def UK (p:Nat→α→Bool):Nat→List α→Bool
 | _,[]=>true
 | i,a::r=>p i a&&UK p (i+1) r
theorem Xw {p:Nat→α→Bool} {l:Nat→Int→R} {E O:R} (he:∀ k,l (k+1) (x.length:Int)=E)
  (h:∀ k i (hi:i < x.length),B≤k→l (k+1) (i:Int)=cond (p i x[i]) (l k ((i+1:Nat):Int)) O) (k:Nat) (hk:B+x.length+1≤k):l k 0=cond (UK p 0 x) E O:=by
 have go:∀ m i k,i+m=x.length→B+m+1≤k→l k (i:Int)=cond (UK p i (x.drop i)) E O:=by
  intro m
  induction m with
  | zero=>
   intro i k h1 h2;obtain rfl:i=x.length:=by omega
   obtain ⟨k,rfl⟩:∃ j,k=j+1:=⟨k-1,by omega⟩;simp [he,UK]
  | succ m ih=>
   intro i k h1 h2;obtain ⟨k,rfl⟩:∃ j,k=j+1:=⟨k-1,by omega⟩;have hi:i < x.length:=by omega
   rw [h k i hi (by omega),List.drop_eq_getElem_cons hi];simp only [UK];cases p i x[i] with
   | true=>simpa using ih (i+1) k (by omega) (by omega)
   | false=>rfl
 have:=go x.length 0 k (by omega) (by omega);simpa using this
end
def GK:List (List UInt8)→List aC→Bool
 | _,[]=>true
 | q,f::r=>!(q.any fun y=>seq y f.Name)&&GK (q++[f.Name]) r
def o9 (ks:List (List UInt8)) (s:aD):Bool:=b8 (s.aV.length:Int) 6&&(s.aV.all (qM ks)&&GK [] s.aV)
def e_ (xs:List aD):Bool:=b8 (xs.length:Int) 6&&(q_ (kinds xs)&&xs.all (o9 (kinds xs)))
theorem PR {p:aC→Bool}:∀ (r pre:List aC),UK (fun i f=>p f&&!(((pre++r).take i).any fun g=>seq g.Name f.Name)) pre.length r=(r.all p&&GK (pre.map (·.Name)) r)
 | [],_=>rfl
 | f::r,pre=>by
  have ih:=PR (p:=p) r (pre++[f]);simp only [List.append_assoc,List.singleton_append,List.length_append,List.length_cons,List.length_nil,List.map_append,List.map_cons,List.map_nil] at ih;simp only [UK,GK,List.all_cons];rw [ih,List.take_left];have e:(pre.any fun g=>seq g.Name f.Name)=((pre.map (·.Name)).any fun y=>seq y f.Name):=by rw [List.any_map];rfl
  rw [e];cases p f<;>cases (pre.map (·.Name)).any fun y=>seq y f.Name<;>cases r.all p<;>rfl
theorem Zn {k:Nat} {xs:List aD} {i:Int} {q:Nat} {s:aD} {J:List aD→Int→Int→aD→Option Bool} (hq:q < s.aV.length) (hs:s.aV.length≤1048576) (hk:4194304≤k):
  iter (ts:=jJ) (R:=Bool) k (fA J) xs i (q:Int) (0:Int) s=cond ((s.aV.take q).any fun g=>seq g.Name s.aV[q].Name) (some false) (J xs i q s):=by
 have hl:(s.aV.take q).length=q:=by simp;omega
 refine Iw (x:=s.aV.take q) (p:=fun g=>seq g.Name s.aV[q].Name) (B:=0) (l:=fun k j=>iter (ts:=jJ) (R:=Bool) k (fA J) xs i (q:Int) j s)
  (fun k=>by simp only [iter,fA,hl,ck,cond_false]<;>rfl)
  (fun k j hj _=>?_) k (by omega)
 rw [hl] at hj;have mR:j < s.aV.length:=by omega
 simp only [iter,fA,cf hj,bM mR,bM hq,cond_true,bL,bR mR,bR hq,bQ (n:=q) (by omega) hj,List.getElem_take]<;>rfl
theorem Zo {k:Nat} {xs:List aD} {i:Int} {s:aD} {J:List aD→Int→Option Bool} (hx:xs.length≤1048576) (hs:s.sd) (hk:4194304*3≤k):
  iter (ts:=fP) (R:=Bool) k (dZ J) xs i (0:Int) s=cond (s.aV.all (qM (kinds xs))&&GK [] s.aV) (J xs i) (some false):=by
 have h:=Xw (x:=s.aV) (p:=fun q f=>qM (kinds xs) f&&!((s.aV.take q).any fun g=>seq g.Name f.Name)) (B:=4194304*2) (l:=fun k q=>iter (ts:=fP) (R:=Bool) k (dZ J) xs i q s) (E:=J xs i) (O:=some false)
  (fun k=>by simp only [iter,dZ,ck,cond_false]<;>rfl)
  (fun k q hq hb=>by
   simp only [iter,dZ,share,cf hq,bM hq,cond_true,bL,bR hq,Sx (show 8388608≤k by omega) hx (hs.2.2 _ (dJ hq)),Option.bind_some];cases qM (kinds xs) s.aV[q] with
   | false=>rfl
   | true=>
    simp only [Bool.not_true,cond_false,Bool.true_and];refine (Zn hq hs.2.1 (by omega)).trans ?_;rw [bQ hs.2.1 hq];cases (s.aV.take q).any fun g=>seq g.Name s.aV[q].Name<;>rfl) k (by have:=hs.2.1;omega)
 have e:=PR (p:=qM (kinds xs)) s.aV [];simp only [List.nil_append,List.length_nil,List.map_nil] at e;rw [e] at h;exact h
theorem MR {k:Nat} {xs:List aD} (hx:lE aD.sd xs) (hk:4194304*4≤k):nD k xs=some (e_ xs):=by
 unfold nD;have h:=fE (x:=xs) (p:=fun o s=>Bk (o.map (·.Kind)) s.Kind&&o9 (kinds xs) s) (B:=4194304*3) (l:=fun k i=>iter (ts:=gr) (R:=Bool) k (eG (some true)) xs i) (E:=some true) (O:=some false)
  (fun k=>by simp only [iter,eG,ck,cond_false]<;>rfl)
  (fun k i hi hb=>by
   have hsi:=hx.2 _ (dJ hi);simp only [iter,eG,share,cf hi,bM hi,cond_true,bL,bR hi,ez (show 4194304≤k by omega) hsi.1,Option.bind_some,bQ hx.1 hi];have fin:∀ c:Bool,cond c (some false) (iter (ts:=fP) (R:=Bool) k (dZ fun agB agC=>iter (ts:=gr) (R:=Bool) k (eG (some true)) agB (aP .i64 agC 1)) xs (i:Int) (0:Int) xs[i]) =
     cond (!c&&(xs[i].aV.all (qM (kinds xs))&&GK [] xs[i].aV)) (iter (ts:=gr) (R:=Bool) k (eG (some true)) xs ((i+1:Nat):Int)) (some false):=by
    intro c;cases c with
    | true=>rfl
    | false=>
     refine (Zo hx.1 hsi (by omega)).trans ?_;rw [bQ hx.1 hi];rfl
   simp only [Bk,o9,← V6];rcases Nat.eq_zero_or_pos i with rfl | h0
   ·simp only [sZ,mm];cases cB xs[0].Kind with
    | false=>exact (fin true).trans rfl
    | true=>exact fin _
   ·have di:i-1 < xs.length:=by omega
    simp only [z0 h0,q9 h0 (by have:=hx.1;omega),bM di,cond_true,bL,bR di,mn h0 hi,Option.map_some];cases cB xs[i].Kind with
    | false=>exact (fin true).trans rfl
    | true=>
     cases slt xs[i-1].Kind xs[i].Kind with
     | false=>exact (fin true).trans rfl
     | true=>exact fin _) k (by have:=hx.1;omega)
 simp only [share];have e1:chain (fun o s=>Bk (o.map (·.Kind)) s.Kind&&o9 (kinds xs) s) none xs=(q_ (kinds xs)&&xs.all (o9 (kinds xs))):=by
  rw [uC,uD]
  congr 1
  exact (J4 (f:=aD.Kind) (p:=Bk) xs none).symm
 rw [e1] at h;simp only [e_,cL];cases b8 (xs.length:Int) 6 with
 | false=>rfl
 | true=>exact h.trans (by cases q_ (kinds xs)&&xs.all (o9 (kinds xs))<;>rfl)
theorem Sy {k:Nat} {f:aC} {ks:List (List UInt8)} (hk:4194304≤k) (hx:ks.length≤1048576) (h4:bH f.Kind 4=true):jw k ⟨f⟩ ks=some (sound ks f):=by
 unfold jw;simp only [share];have h:=fun J:bJ→Bool→Option Bool=>fD (S:=Bool) (x:=ks) (f:=fun (t:Bool) y=>t||seq y f.To) (B:=0) (l:=fun k t i=>iter (ts:=n6) (R:=Bool) k (gv J) ⟨f⟩ t ks (ks.length:Int) i) (J:=fun t=>J ⟨f⟩ t) (fun _ _=>True)
  (fun k t _=>by simp only [iter,gv,ck,cond_false]<;>rfl)
  (fun k i t hi _ _=>⟨by simp only [iter,gv,share,cf hi,bM hi,cond_true,bL,bR hi,bQ hx hi];cases t<;>rfl,trivial⟩) k false (by omega) trivial
 have e:∀ (y:List (List UInt8)) (t:Bool),y.foldl (fun (t:Bool) y=>t||seq y f.To) t=(t||y.any fun k=>seq k f.To):=by
  intro y
  induction y with
  | nil=>intro t;simp
  | cons a r ih=>intro t;rw [List.foldl_cons,ih,List.any_cons,Bool.or_assoc]
 refine (h _).trans ?_;rw [e];have e1:=K_ h4 (c:=1) (by decide);have e2:=K_ h4 (c:=2) (by decide);have e3:=K_ h4 (c:=3) (by decide);simp only [e,sound,e1,e2,e3,h4,Bool.false_or];cases ks.any fun k=>seq k f.To<;>cases b8 1 f.cG<;>cases b8 f.cG 3<;>cases seq f.Default []<;>cases bH f.cG 2<;>cases f.c6<;>rfl
def iP (n:List UInt8) (m:List cy):Int:=nN (fun p:cy=>seq n p.Key) (fun p:cy=>p.Mv) (0:Int) m
def see (n:List UInt8) (m:List cy):List cy:=pB (fun p:cy=>seq n p.Key) m ⟨n,aP .i64 (iP n m) 1⟩
theorem PS (n n':List UInt8) (m:List cy):iP n' (see n m)=cond (seq n' n) (aP .i64 (iP n m) 1) (iP n' m):=J7 (key:=cy.Key) (y:=⟨n,aP .i64 (iP n m) 1⟩)
def V8 (ks:List (List UInt8)) (m:List cy) (_:Nat) (f:aC):List cy ⊕ Option Bool:=cond (qM ks f&&!bK 1 (iP f.Name (see f.Name m))) (.inl (see f.Name m)) (.inr (some false))
theorem ac4 (ks:List (List UInt8)):∀ (r:List aC) (i:Nat) (m:List cy) (q:List (List UInt8)),(∀ n,iP n m=if q.any (fun y=>seq y n) then 1 else 0)→fin (fun _=>some true) (scan (V8 ks) r i m)=some (r.all (qM ks)&&GK q r)
 | [],_,_,_,_=>rfl
 | f::r,i,m,q,h=>by
  simp only [scan,V8,List.all_cons,GK];have e0:iP f.Name (see f.Name m)=aP .i64 (iP f.Name m) 1:=by rw [PS,p8];rfl
  rw [e0,h f.Name];cases qM ks f with
  | false=>rfl
  | true=>
   cases hq:q.any fun y=>seq y f.Name with
   | true=>
    simp only [if_true];rw [show (aP .i64 (1:Int) 1)=2 from rfl,show bK 1 2=true from rfl];simp [fin]
   | false=>
    simp only [Bool.false_eq_true,if_false];rw [show (aP .i64 (0:Int) 1)=1 from rfl,show bK 1 1=false from rfl];simp only [Bool.not_false,Bool.and_true,cond_true,Bool.true_and];refine ac4 ks r (i+1) _ (q++[f.Name]) fun n=>?_;rw [PS,h f.Name,h n,hq,List.any_append];cases hn:seq n f.Name with
    | true=>
     have e:=eP.1 hn;subst e;simp [p8];rfl
    | false=>
     rw [show (([f.Name]:List (List UInt8)).any fun y=>seq y n)=false by simp [Ei f.Name n,hn],Bool.or_false];rfl
set_option maxHeartbeats 1000000 in
theorem Pc {k:Nat} {s:aD} {ks:List (List UInt8)} (hs:s.sd) (Sz:ks.length≤1048576) (hk:4194304*4≤k):xB k s ks=some (o9 ks s):=by
 unfold xB;have h:=PI (S:=List cy) (R:=Option Bool) (x:=s.aV) (f:=V8 ks) (B:=4194304*3) (l:=fun k m i=>iter (ts:=qV) (R:=Bool) k (mM (some true)) ks s.aV (s.aV.length:Int) i m) (J:=fun _=>some true) (fun _ _=>True)
  (fun k m _=>by simp only [iter,mM,ck,cond_false]<;>rfl)
  (fun k i m hi hb _=>⟨by
   obtain ⟨f1,-,-,-,f5,-,-,-,-,f10,f11⟩:=hs.2.2 _ (dJ hi);have hk1:4194304≤k:=by omega
   have hk2:8388608≤k:=by omega
   simp only [iter,mM,share,cf hi,bM hi,cond_true,bL,bR hi,bQ hs.2.1 hi,f_ hk1 f1,Option.bind_some];have em:(pB (fun p:cy=>seq s.aV[i].Name p.Key) m (⟨s.aV[i].Name,(aP .i64 (nN (fun p:cy=>seq s.aV[i].Name p.Key) (fun p:cy=>p.Mv) (0:Int) m) (1:Int))⟩:cy))=see s.aV[i].Name m:=rfl;have es:nN (fun p:cy=>seq s.aV[i].Name p.Key) (fun p:cy=>p.Mv) (0:Int) (see s.aV[i].Name m)=iP s.aV[i].Name (see s.aV[i].Name m):=rfl;simp only [em,es];unfold V8 qM;generalize see s.aV[i].Name m=m';generalize iter (ts:=qV) (R:=Bool) k (mM (some true))=rec;generalize hF:s.aV[i]=f at *;cases cB f.Name with
   | false=>rfl
   | true=>
    simp only [Bool.not_true,cond_false,Bool.true_and,vR,vc,u_,u9,u7,Option.bind_some];cases bK 1 (iP f.Name m') with
    | true=>simp [fin]<;>rfl
    | false=>
     simp only [cond_false,Bool.not_false,Bool.and_true];cases k1:bH f.Kind 1 with
     | true=>
      simp only [cond_true,Option.bind_some,yr,l9,l_,uF hk1 f5.1 f10,f_ hk1 f11,bare,sound,k1];cases bH (f.Words.length:Int) 0<;>cases seq f.To []<;>cases bH f.cG 0<;>cases b8 0 f.bS<;>cases b8 f.bS f.bT<;>cases b8 f.bT 1000000<;>cases seq f.bE []<;>cases cB f.bE<;>cases seq f.Default []<;>cases fits f f.Default<;>rfl
     | false=>
      simp only [cond_false];cases k2:bH f.Kind 2 with
      | true=>
       simp only [cond_true,Option.bind_some,yr,n_,oa,uF hk1 f5.1 f10,uG hk2 f5,bare,sound,k1,k2];cases bH f.bS 0<;>cases bH f.bT 0<;>cases seq f.To []<;>cases bH f.cG 0<;>cases seq f.bE []<;>cases b8 1 (f.Words.length:Int)<;>cases b8 (f.Words.length:Int) 6<;>cases q_ f.Words<;>cases seq f.Default []<;>cases fits f f.Default<;>rfl
      | false=>
       simp only [cond_false];cases k3:bH f.Kind 3 with
       | true=>
        simp only [cond_true,Option.bind_some,yr,n7,n9,uF hk1 f5.1 f10,bare,sound,k1,k2,k3];cases bH (f.Words.length:Int) 0<;>cases seq f.To []<;>cases bH f.cG 0<;>cases seq f.bE []<;>cases b8 1 f.bS<;>cases b8 f.bS f.bT<;>cases b8 f.bT 40<;>cases seq f.Default []<;>cases fits f f.Default<;>rfl
       | false=>
        simp only [cond_false];cases k4:bH f.Kind 4 with
        | true=>
         simp only [cond_true,Option.bind_some,yr,n5,Sy hk1 Sz k4,uF hk1 f5.1 f10];generalize sound ks f=sd;simp only [bare,k1,k2,k3,k4];cases bH f.bS 0<;>cases bH f.bT 0<;>cases bH (f.Words.length:Int) 0<;>cases seq f.bE []<;>cases sd<;>cases seq f.Default []<;>cases fits f f.Default<;>rfl
        | false=>rw [adA k1 k2 k3 k4];rfl,fun _ _=>trivial⟩) k [] (by have:=hs.2.1;omega) trivial
 simp only [share,o9,cL];cases b8 (s.aV.length:Int) 6 with
 | false=>rfl
 | true=>exact h.trans (by rw [ac4 ks s.aV 0 [] [] fun n=>rfl];rfl)
theorem yM {k:Nat} {xs:List aD} (hx:lE aD.sd xs) (hk:4194304*5≤k):gx k xs=some (e_ xs):=by
 unfold gx;have Zp:lE dt (kinds xs):=⟨by simp only [kinds,List.length_map];exact hx.1,fun y hy=>by
  obtain ⟨s,h1,rfl⟩:=List.mem_map.1 hy;exact (hx.2 s h1).1⟩
 have h1:=fun (J:List aD→List (List UInt8)→Option Bool)=>fD (S:=List (List UInt8)) (x:=xs) (f:=fun (q:List (List UInt8)) s=>q++[s.Kind]) (B:=0) (l:=fun k q i=>iter (ts:=rG) (R:=Bool) k (jx J) xs xs (xs.length:Int) i q) (J:=fun q=>J xs q) (fun i q=>q.length=i)
  (fun k q _=>by simp only [iter,jx,ck,cond_false]<;>rfl)
  (fun k i q hi _ hq=>⟨by
   have:=hx.1;simp only [iter,jx,cf hi,bM hi,cond_true,bL,bR hi,bQ hx.1 hi];rw [hC (by simp;omega) (by omega)];rfl,by simp [hq]⟩) k [] (by have:=hx.1;omega) rfl
 have e:∀ (y:List aD) (q:List (List UInt8)),y.foldl (fun (q:List (List UInt8)) s=>q++[s.Kind]) q=q++kinds y:=by
  intro y
  induction y with
  | nil=>intro q;simp [kinds]
  | cons a r ih=>intro q;rw [List.foldl_cons,ih];simp [kinds]
 have h2:=gN (x:=xs) (p:=o9 (kinds xs)) (B:=4194304*4) (l:=fun k i=>iter (ts:=p5) (R:=Bool) k (iI (some true)) xs (xs.length:Int) i (kinds xs)) (E:=some true) (O:=some false)
  (fun k=>by simp only [iter,iI,ck,cond_false]<;>rfl)
  (fun k i hi hb=>by
   simp only [iter,iI,cf hi,bM hi,cond_true,bL,bR hi,bQ hx.1 hi,Pc (hx.2 _ (dJ hi)) Zp.1 hb,Option.bind_some];cases o9 (kinds xs) xs[i]<;>rfl) k (by have:=hx.1;omega)
 simp only [share,e_,cL];cases hl:b8 (xs.length:Int) 6 with
 | false=>rfl
 | true=>
  rw [show GV (0:Int) (xs.length:Int) 16=true by
   simp only [GV,Bool.and_eq_true,decide_eq_true_eq];have:=hx.1;omega]
  simp only [Bool.not_true,cond_false,bL];refine (h1 _).trans ?_;rw [e,List.nil_append];simp only [uG (show 8388608≤k by omega) Zp,Option.bind_some,h2];cases q_ (kinds xs)<;>cases xs.all (o9 (kinds xs))<;>rfl
theorem SA (a b:Int):bH a b=bH b a:=by
 rw [Bool.eq_iff_iff];simp only [bH,beq_iff_eq];exact eq_comm
theorem Fb (to:List UInt8):∀ (xs:List aD) (i:Nat),QT to xs i=uE (fun s=>seq s.Kind to) xs i
 | [],_=>rfl
 | s::r,i=>by simp only [QT,uE,Fb to r]
theorem Fc {k:Nat} {xs:List aD} {n:List UInt8} (hk:4194304≤k) (hx:xs.length≤1048576):ma k xs n=some (uE (fun s=>seq s.Kind n) xs 0):=by
 unfold ma;simp only [share];exact m9 (x:=xs) (p:=fun s=>seq s.Kind n) (l:=fun k i=>iter (ts:=yt) (R:=Int) k (qA (some (-1))) n xs (xs.length:Int) i)
  (fun k=>by simp only [iter,qA,ck,cond_false]<;>rfl)
  (fun k i hi=>by simp only [iter,qA,cf hi,bM hi,cond_true,bL,bR hi,bQ hx hi]<;>rfl) k (by omega)
def cw (xs:List aD) (o:aA):Option (List aC):=match xs.find? fun s=>seq s.Kind o.Kind with
 | some s=>cond (bH (s.aV.length:Int) (o.aR.length:Int)) (some s.aV) none
 | none=>none
theorem jD {xs:List aD} {o:aA} {fs:List aC} (h:cw xs o=some fs):fs.length=o.aR.length∧∃ s,s∈xs∧s.aV=fs:=by
 unfold cw at h;cases hf:xs.find? fun s=>seq s.Kind o.Kind with
 | none=>rw [hf] at h;cases h
 | some s=>
  rw [hf] at h;simp only at h;cases he:bH (s.aV.length:Int) (o.aR.length:Int) with
  | false=>rw [he] at h;cases h
  | true=>
   rw [he] at h;cases h;simp only [bH,beq_iff_eq] at he;exact ⟨by omega,s,List.mem_of_find?_eq_some hf,rfl⟩
theorem s6 {k:Nat} {xs:List aD} {o:aA} (hk:4194304≤k) (hx:xs.length≤1048576):hU k xs o=some ((cw xs o).getD [],(cw xs o).isSome):=by
 unfold hU cw;rw [Fa hk hx,Fb];simp only [share,Option.bind_some];rcases eJ (fun s:aD=>seq s.Kind o.Kind) xs with ⟨h1,h2⟩ | ⟨j,hj,h1,h2,_⟩
 ·rw [h1,h2];rfl
 ·rw [h1,h2,dz (by omega),bM hj,bR hj];simp only;cases bH (xs[j].aV.length:Int) (o.aR.length:Int)<;>rfl
theorem xD {k:Nat} {xs:List aD} {o:aA} (hk:4194304≤k) (hx:xs.length≤1048576):jN k xs o=some ((cw xs o).getD [],(cw xs o).isSome):=by
 unfold jN cw;rw [Fc hk hx];simp only [share,Option.bind_some];rcases eJ (fun s:aD=>seq s.Kind o.Kind) xs with ⟨h1,h2⟩ | ⟨j,hj,h1,h2,_⟩
 ·rw [h1,h2];rfl
 ·rw [h1,h2,dz (by omega),bM hj,bR hj,SA (o.aR.length:Int)];simp only;cases bH (xs[j].aV.length:Int) (o.aR.length:Int)<;>rfl
def MS (xs:List aD) (o:aA):Bool:=(cw xs o).isSome&&(cB o.Name&&(cB o.aX&&(b8 (o.b7.length:Int) 3&&(q_ o.b7&&(b8 0 o.Version&&b8 o.Version 1000000)))))
def MT (vs:List (List UInt8)) (i:Nat) (f:aC):Option (Int×Int):=
 cond (seq (vs.getD i []) []) (cond f.c6 (some (2,(i:Int))) none) (cond (fits f (vs.getD i [])) none (some (3,(i:Int))))
def QU (xs:List aD) (o:aA):Int×Int:=
 cond (e_ xs&&MS xs o) ((first (MT o.aR) ((cw xs o).getD []) 0).getD (0,0)) (1,0)
theorem J_ {α:Type} {d:α} {x:List α} {i:Nat} (h:i < x.length):x.getD i d=x[i]:=by simp [List.getD,h]
end Go.Proofs.YtjkbbdldmdajkaaGreatDoor.Pu
