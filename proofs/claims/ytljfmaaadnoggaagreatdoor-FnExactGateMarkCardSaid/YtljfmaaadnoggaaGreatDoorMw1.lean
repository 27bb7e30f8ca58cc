/- Plain words and laws. No condition. -/
import Derived.Test.YtljfmaaadnoggaaGreatDoorPvMk
set_option linter.unusedSimpArgs false
set_option linter.unusedVariables false
namespace Go.Proofs.YtljfmaaadnoggaaGreatDoor.Pu
open Go Go.RowKit Go.Proofs.YtljfmaaadnoggaaGreatDoor.cU Go.Proofs.YtljfmaaadnoggaaGreatDoor.Fn
theorem Yd.ofE {α:Type} {F:Nat→Option α} {a:α} (B:Nat) (h:∀ k,B≤k→F k=some a):Yd F a:=⟨B,h⟩
theorem bL {R:Type} (x:Option R):bC true x=x:=rfl
theorem afy {α β γ:Type} (x:α) (f:α→γ) (g:β→γ):xe (.inl x) f g=f x:=rfl
theorem acA {α β γ:Type} (x:β) (f:α→γ) (g:β→γ):xe (.inr x) f g=g x:=rfl
theorem afn {α β:Type} (x:α) (f:α→β):share x f=f x:=rfl
theorem cf {i n:Nat} (h:i < n):bN (i:Int) (n:Int)=true:=mw (by omega)
theorem cm {n:Nat}:bN (n:Int) (n:Int)=false:=fq (by omega)
theorem bI {i n:Nat} (h:i < n):bT (i:Int) n=true:=H9 (by omega) (by omega)
theorem bO {i n:Nat} (hn:n≤1048576) (h:i < n):aQ .i64 (i:Int) 1=((i+1:Nat):Int):=by
 rw [ss (by omega) (by omega)];norm_cast
theorem pt {i:Nat} (h0:0 < i) (hi:i≤1048576):bS .i64 (i:Int) 1=((i-1:Nat):Int):=by
 rw [Vz (by omega) (by omega)];omega
theorem yX {i:Nat} (h:0 < i):bN 0 (i:Int)=true:=mw (by omega)
theorem rm:bN 0 ((0:Nat):Int)=false:=rfl
theorem afz {n:Nat} (h:n≤1048576):n≤maxLen:=by have:=max_eq;omega
theorem dk {α:Type} {x:List α} {i:Nat} (h:i < x.length):x[i]∈x:=List.getElem_mem h
theorem bJ {α:Type} {d:α} {x:List α} {i:Nat} (hi:i < x.length):nth d x (i:Int)=x[i]:=LR hi
section
variable {α R S:Type} {x:List α} {B:Nat}
theorem xz {p:α→Bool} {l:Nat→Int→R} {E O:R} (he:∀ k,l (k+1) (x.length:Int)=E)
  (h:∀ k i (hi:i < x.length),B≤k→l (k+1) (i:Int)=cond (p x[i]) O (l k ((i+1:Nat):Int))) (k:Nat) (hk:B+x.length+1≤k):l k 0=cond (x.any p) O E:=by
 have go:∀ m i k,i+m=x.length→B+m+1≤k→l k (i:Int)=cond ((x.drop i).any p) O E:=by
  intro m
  induction m with
  | zero=>
   intro i k h1 h2
   obtain rfl:i=x.length:=by omega
   obtain ⟨k,rfl⟩:∃ j,k=j+1:=⟨k-1,by omega⟩
   simp [he]
  | succ m ih=>
   intro i k h1 h2
   obtain ⟨k,rfl⟩:∃ j,k=j+1:=⟨k-1,by omega⟩
   have hi:i < x.length:=by omega
   rw [h k i hi (by omega),List.drop_eq_getElem_cons hi,List.any_cons]
   cases p x[i] with
   | true=>rfl
   | false=>simpa using ih (i+1) k (by omega) (by omega)
 have:=go x.length 0 k (by omega) (by omega)
 simpa using this
theorem gf {p:α→Bool} {l:Nat→Int→R} {E O:R} (he:∀ k,l (k+1) (x.length:Int)=E)
  (h:∀ k i (hi:i < x.length),B≤k→l (k+1) (i:Int)=cond (p x[i]) (l k ((i+1:Nat):Int)) O) (k:Nat) (hk:B+x.length+1≤k):l k 0=cond (x.all p) E O:=by
 have:=xz (p:=fun a=>!p a) (l:=l) (E:=E) (O:=O) he (fun k i hi hb=>by rw [h k i hi hb];cases p x[i]<;>rfl) k hk
 rw [this]
 have e:(x.any fun a=>!p a)=!x.all p:=by simp [List.any_eq_not_all_not]
 rw [e];cases x.all p<;>rfl
def scan (f:S→Nat→α→S ⊕ R):List α→Nat→S→S ⊕ R
 | [],_,s=>.inl s
 | a::r,i,s=>match f s i a with
  | .inl s'=>scan f r (i+1) s'
  | .inr y=>.inr y
def fin (J:S→R):S ⊕ R→R
 | .inl s=>J s
 | .inr y=>y
theorem Mu {l:Nat→S→Int→R} {J:S→R} {f:S→Nat→α→S ⊕ R} (I:Nat→S→Prop)
  (he:∀ k s,I x.length s→l (k+1) s (x.length:Int)=J s)
  (h:∀ k i s (hi:i < x.length),B≤k→I i s→l (k+1) s (i:Int)=fin (fun s'=>l k s' ((i+1:Nat):Int)) (f s i x[i])∧∀ s',f s i x[i]=.inl s'→I (i+1) s'):
  ∀ m i k s,i+m=x.length→B+m+1≤k→I i s→l k s (i:Int)=fin J (scan f (x.drop i) i s):=by
 intro m
 induction m with
 | zero=>
  intro i k s h1 h2 h3
  obtain rfl:i=x.length:=by omega
  obtain ⟨k,rfl⟩:∃ j,k=j+1:=⟨k-1,by omega⟩
  rw [he k s h3,List.drop_length];rfl
 | succ m ih=>
  intro i k s h1 h2 h3
  obtain ⟨k,rfl⟩:∃ j,k=j+1:=⟨k-1,by omega⟩
  have hi:i < x.length:=by omega
  obtain ⟨h4,h5⟩:=h k i s hi (by omega) h3
  rw [h4,List.drop_eq_getElem_cons hi]
  simp only [scan]
  cases hf:f s i x[i] with
  | inl s'=>exact ih (i+1) k s' (by omega) (by omega) (h5 s' hf)
  | inr y=>rfl
theorem JN {l:Nat→S→Int→R} {J:S→R} {f:S→Nat→α→S ⊕ R} (I:Nat→S→Prop)
  (he:∀ k s,I x.length s→l (k+1) s (x.length:Int)=J s)
  (h:∀ k i s (hi:i < x.length),B≤k→I i s→l (k+1) s (i:Int)=fin (fun s'=>l k s' ((i+1:Nat):Int)) (f s i x[i])∧∀ s',f s i x[i]=.inl s'→I (i+1) s')
  (k:Nat) (s:S) (hk:B+x.length+1≤k) (h0:I 0 s):l k s 0=fin J (scan f x 0 s):=by
 have:=Mu I he h x.length 0 k s (by omega) hk h0
 simpa using this
theorem fL {l:Nat→S→Int→R} {J:S→R} {f:S→α→S} (I:Nat→S→Prop)
  (he:∀ k s,I x.length s→l (k+1) s (x.length:Int)=J s)
  (h:∀ k i s (hi:i < x.length),B≤k→I i s→l (k+1) s (i:Int)=l k (f s x[i]) ((i+1:Nat):Int)∧I (i+1) (f s x[i]))
  (k:Nat) (s:S) (hk:B+x.length+1≤k) (h0:I 0 s):l k s 0=J (x.foldl f s):=by
 have:=JN (f:=fun s _ a=>.inl (f s a)) I he (fun k i s hi hb h0=>⟨(h k i s hi hb h0).1,fun s' e=>by cases e;exact (h k i s hi hb h0).2⟩) k s hk h0
 rw [this]
 have e:∀ (y:List α) i s,scan (R:=R) (fun s _ a=>.inl (f s a)) y i s=.inl (y.foldl f s):=by
  intro y
  induction y with
  | nil=>intro i s;rfl
  | cons a r ih=>intro i s;simp only [scan,List.foldl_cons];exact ih _ _
 rw [e];rfl
end
def bt (c:UInt8):Int:=(c.toNat:Int)
theorem Mv (c:UInt8):0≤bt c∧bt c≤255:=by
 have:=c.toNat_lt
 simp only [bt];omega
theorem xA {s:List UInt8} {i:Nat} (h:i < s.length):zI s (i:Int)=bt s[i]:=by
 simp only [zI,Int.toNat_natCast,List.getD,bt]
 rw [List.getElem?_eq_getElem h];rfl
theorem sH {n b:Nat} (hn:n≤16777216) (hb:b≤100000):uF n b=true:=by
 have h1:n*b≤16777216*100000:=Nat.mul_le_mul hn hb
 simp only [uF,Bool.and_eq_true,decide_eq_true_eq]
 omega
theorem wrap_u8 {n:Int} (h0:0≤n) (h1:n≤255):IntKind.u8.wrap n=n:=by
 simp only [IntKind.wrap,IntKind.bits,IntKind.signed,Bool.false_and]
 split
 ·rename_i h;simp at h
 ·omega
theorem Mw (k:Nat) (a b c:Int):dq k a b c=some (b_ b a&&b_ a c):=by
 unfold dq
 cases b_ b a<;>rfl
def nb (c:UInt8):Bool:=(b_ 97 (bt c)&&b_ (bt c) 122)||((b_ 48 (bt c)&&b_ (bt c) 57)||bM (bt c) 45)
theorem R1 (k:Nat) (c:UInt8):ue k (bt c)=some (nb c):=by
 unfold ue nb
 cases b_ 97 (bt c)<;>cases b_ (bt c) 122<;>cases b_ 48 (bt c)<;>cases b_ (bt c) 57<;>cases bM (bt c) 45<;>rfl
theorem T5 (k:Nat) (c:UInt8):tj k (bt c)=some (nb c):=by
 unfold tj nb
 cases b_ 97 (bt c)<;>cases b_ (bt c) 122<;>cases b_ 48 (bt c)<;>cases b_ (bt c) 57<;>cases bM (bt c) 45<;>rfl
def cD (s:List UInt8):Bool:=b_ 1 (s.length:Int)&&(b_ (s.length:Int) 16&&s.all nb)
theorem eg {k:Nat} {s:List UInt8} (hk:4194304≤k) (hs:dc s):cv k s=some (cD s):=by
 unfold cv cD
 have h:=gf (x:=s) (p:=nb) (B:=0) (l:=fun k i=>iter (ts:=vz) (R:=Bool) k (m_ (some true)) s i) (E:=some true) (O:=some false)
  (fun k=>by simp only [iter,m_,cm,cond_false]<;>rfl)
  (fun k i hi _=>by
   simp only [iter,m_,cf hi,bI hi,cond_true,bL,xA hi,R1,Option.bind_some,bO hs hi]
   cases nb s[i]<;>rfl) k (by have:s.length≤1048576:=hs;omega)
 simp only [share,Mw,Option.bind_some,h]
 cases b_ 1 (s.length:Int)<;>cases b_ (s.length:Int) 16<;>cases s.all nb<;>rfl
theorem KS {k:Nat} {s:List UInt8} (hk:4194304≤k) (hs:dc s):fk k s=some (s.all nb):=by
 unfold fk
 have h:=gf (x:=s) (p:=nb) (B:=0) (l:=fun k i=>iter (ts:=uh) (R:=Bool) k (lZ (some true)) s (s.length:Int) i) (E:=some true) (O:=some false)
  (fun k=>by simp only [iter,lZ,cm,cond_false]<;>rfl)
  (fun k i hi _=>by
   simp only [iter,lZ,cf hi,bI hi,cond_true,bL,xA hi,T5,Option.bind_some,bO hs hi]
   cases nb s[i]<;>rfl) k (by have:s.length≤1048576:=hs;omega)
 simp only [share]
 exact h.trans (by cases s.all nb<;>rfl)
theorem gg {k:Nat} {s:List UInt8} (hk:4194304≤k) (hs:dc s):cO k s=some (cD s):=by
 unfold cO cD
 simp only [KS hk hs,Option.bind_some]
 cases b_ 1 (s.length:Int)<;>cases b_ (s.length:Int) 16<;>rfl
theorem VA (a b:Int):(!bN a b)=b_ b a:=by
 by_cases h:a < b
 ·rw [mw h,R2 (by omega)];rfl
 ·rw [fq h,FU (by omega)];rfl
theorem cJ (a b:Int):bN a b=!b_ b a:=by rw [← VA];simp
theorem Pb {s:List UInt8} (h:seq s []=true):cD s=false:=by
 have e:s=[]:=by simpa [seq] using h
 subst e;rfl
section
variable {α R S:Type} {x:List α} {B:Nat}
def chain (p:Option α→α→Bool):Option α→List α→Bool
 | _,[]=>true
 | q,a::r=>p q a&&chain p (some a) r
def ahead (x:List α) (i:Nat):Option α:=if i=0 then none else x[i-1]?
theorem kL:ahead x 0=none:=rfl
theorem kM {i:Nat} (h:0 < i) (hi:i < x.length):ahead x i=some (x[i-1]'(by omega)):=by
 unfold ahead
 rw [if_neg (by omega)]
 exact List.getElem?_eq_getElem _
theorem eY {p:Option α→α→Bool} {l:Nat→Int→R} {E O:R} (he:∀ k,l (k+1) (x.length:Int)=E)
  (h:∀ k i (hi:i < x.length),B≤k→l (k+1) (i:Int)=cond (p (ahead x i) x[i]) (l k ((i+1:Nat):Int)) O) (k:Nat) (hk:B+x.length+1≤k):l k 0=cond (chain p none x) E O:=by
 have go:∀ m i k,i+m=x.length→B+m+1≤k→l k (i:Int)=cond (chain p (ahead x i) (x.drop i)) E O:=by
  intro m
  induction m with
  | zero=>
   intro i k h1 h2
   obtain rfl:i=x.length:=by omega
   obtain ⟨k,rfl⟩:∃ j,k=j+1:=⟨k-1,by omega⟩
   simp [he,chain]
  | succ m ih=>
   intro i k h1 h2
   obtain ⟨k,rfl⟩:∃ j,k=j+1:=⟨k-1,by omega⟩
   have hi:i < x.length:=by omega
   rw [h k i hi (by omega),List.drop_eq_getElem_cons hi]
   have e:some x[i]=ahead x (i+1):=by simp [ahead]
   simp only [chain,e]
   cases p (ahead x i) x[i] with
   | true=>simpa using ih (i+1) k (by omega) (by omega)
   | false=>rfl
 have:=go x.length 0 k (by omega) (by omega)
 simpa [ahead] using this
theorem wk {p q:Option α→α→Bool}:∀ (y:List α) (o:Option α),chain (fun o a=>p o a&&q o a) o y=(chain p o y&&chain q o y)
 | [],_=>rfl
 | a::r,o=>by
  simp only [chain,wk r]
  cases p o a<;>cases q o a<;>cases chain p (some a) r<;>rfl
theorem wm {p:α→Bool}:∀ (y:List α) (o:Option α),chain (fun _ a=>p a) o y=y.all p
 | [],_=>rfl
 | a::r,o=>by simp only [chain,wm r,List.all_cons]
theorem JO {β:Type} {f:α→β} {p:Option β→β→Bool}:∀ (y:List α) (o:Option α),chain p (o.map f) (y.map f)=chain (fun o a=>p (o.map f) (f a)) o y
 | [],_=>rfl
 | a::r,o=>by simp only [List.map_cons,chain];rw [← JO r];rfl
theorem Mx {p:α→Bool} {y:α}:nV p [] y=[y]:=rfl
theorem JP {p:α→Bool} {a y:α} {l:List α}:nV p (a::l) y=cond (p a) (y::l) (a::nV p l y):=by
 unfold nV
 rw [List.findIdx?_cons]
 cases p a with
 | true=>rfl
 | false=>cases h:l.findIdx? p<;>simp [h]
theorem lq {β:Type} {p:α→Bool} {f:α→β} {d:β} {a:α} {l:List α}:l8 p f d (a::l)=cond (p a) (f a) (l8 p f d l):=by
 unfold l8
 rw [List.find?_cons]
 cases p a<;>rfl
theorem Ah {p:α→Bool} {a:α} {l:List α}:JQ p (a::l)=(p a||JQ p l):=by
 unfold JQ
 rw [List.findIdx?_cons]
 cases p a<;>cases l.findIdx? p<;>rfl
theorem dQ {a b:List UInt8}:seq a b=true↔a=b:=by simp [seq]
theorem H_ (a b:List UInt8):seq a b=seq b a:=by
 rw [Bool.eq_iff_iff,dQ,dQ];exact eq_comm
theorem JR {β:Type} {key:α→List UInt8} {f:α→β} {d:β} {y:α} {n:List UInt8}:∀ {l:List α},l8 (fun p=>seq n (key p)) f d (nV (fun p=>seq (key y) (key p)) l y)=cond (seq n (key y)) (f y) (l8 (fun p=>seq n (key p)) f d l)
 | []=>by rw [Mx,lq]
 | a::l=>by
  rw [JP]
  cases h:seq (key y) (key a) with
  | true=>
   have e:=dQ.1 h
   rw [cond_true,lq,lq,← e]
   cases seq n (key y)<;>rfl
  | false=>
   rw [cond_false,lq,lq,JR]
   cases h1:seq n (key a) with
   | false=>rfl
   | true=>
    have e:=dQ.1 h1
    subst e
    rw [show seq (key a) (key y)=false by rw [H_];exact h];rfl
theorem WT {key:α→List UInt8} {y:α} {n:List UInt8}:∀ {l:List α},JQ (fun p=>seq n (key p)) (nV (fun p=>seq (key y) (key p)) l y)=(seq n (key y)||JQ (fun p=>seq n (key p)) l)
 | []=>by rw [Mx,Ah]
 | a::l=>by
  rw [JP]
  cases h:seq (key y) (key a) with
  | true=>
   have e:=dQ.1 h
   rw [cond_true,Ah,Ah,← e]
   cases seq n (key y)<;>rfl
  | false=>
   rw [cond_false,Ah,Ah,WT]
   cases seq n (key a)<;>cases seq n (key y)<;>rfl
end
def Ai (q:Option (List UInt8)) (s:List UInt8):Bool:=cD s&&(match q with | none=>true | some p=>slt p s)
def pv (xs:List (List UInt8)):Bool:=chain Ai none xs
abbrev Nm:=List UInt8
section
variable {α:Type} {x:List α} {B:Nat} {p:α→Bool}
def xB (p:α→Bool):List α→Nat→Int
 | [],_=>-1
 | a::r,i=>cond (p a) (i:Int) (xB p r (i+1))
theorem pX {l:Nat→Int→Option Int} (he:∀ k,l (k+1) (x.length:Int)=some (-1))
  (h:∀ k i (hi:i < x.length),l (k+1) (i:Int)=cond (p x[i]) (some (i:Int)) (l k ((i+1:Nat):Int))) (k:Nat) (hk:x.length+1≤k):l k 0=some (xB p x 0):=by
 have go:∀ m i k,i+m=x.length→m+1≤k→l k (i:Int)=some (xB p (x.drop i) i):=by
  intro m
  induction m with
  | zero=>
   intro i k h1 h2
   obtain rfl:i=x.length:=by omega
   obtain ⟨k,rfl⟩:∃ j,k=j+1:=⟨k-1,by omega⟩
   simp [he,xB]
  | succ m ih=>
   intro i k h1 h2
   obtain ⟨k,rfl⟩:∃ j,k=j+1:=⟨k-1,by omega⟩
   have hi:i < x.length:=by omega
   rw [h k i hi,List.drop_eq_getElem_cons hi]
   simp only [xB]
   cases p x[i] with
   | true=>rfl
   | false=>exact ih (i+1) k (by omega) (by omega)
 have:=go x.length 0 k (by omega) (by omega)
 simpa using this
theorem Pc:∀ (y:List α) (i:Nat),(xB p y i=-1∧y.find? p=none)∨∃ j,∃ h:j < y.length,xB p y i=((i+j:Nat):Int)∧y.find? p=some y[j]∧p y[j]=true
 | [],i=>.inl ⟨rfl,rfl⟩
 | a::r,i=>by
  simp only [xB,List.find?_cons]
  cases ha:p a with
  | true=>exact .inr ⟨0,by simp,by simp,by simp,ha⟩
  | false=>
   rcases Pc r (i+1) with ⟨h1,h2⟩ | ⟨j,hj,h1,h2,h3⟩
   ·exact .inl ⟨h1,h2⟩
   ·exact .inr ⟨j+1,by simpa using hj,by simp only [cond_false,h1];congr 1;omega,by simpa using h2,by simpa using h3⟩
theorem eZ (p:α→Bool) (x:List α):(xB p x 0=-1∧x.find? p=none)∨∃ j,∃ h:j < x.length,xB p x 0=(j:Int)∧x.find? p=some x[j]∧p x[j]=true:=by
 rcases Pc (p:=p) x 0 with h | ⟨j,hj,h1,h2⟩
 ·exact .inl h
 ·exact .inr ⟨j,hj,by simpa using h1,h2⟩
end
section
variable {α R:Type} {x:List α} {B:Nat}
theorem El {p:α→Bool} {l:Nat→Int→R} {E:R} {O:α→R} (he:∀ k,l (k+1) (x.length:Int)=E)
  (h:∀ k i (hi:i < x.length),B≤k→l (k+1) (i:Int)=cond (p x[i]) (O x[i]) (l k ((i+1:Nat):Int))) (k:Nat) (hk:B+x.length+1≤k):l k 0=(match x.find? p with | some a=>O a | none=>E):=by
 have go:∀ m i k,i+m=x.length→B+m+1≤k→l k (i:Int)=(match (x.drop i).find? p with | some a=>O a | none=>E):=by
  intro m
  induction m with
  | zero=>
   intro i k h1 h2
   obtain rfl:i=x.length:=by omega
   obtain ⟨k,rfl⟩:∃ j,k=j+1:=⟨k-1,by omega⟩
   simp [he]
  | succ m ih=>
   intro i k h1 h2
   obtain ⟨k,rfl⟩:∃ j,k=j+1:=⟨k-1,by omega⟩
   have hi:i < x.length:=by omega
   rw [h k i hi (by omega),List.drop_eq_getElem_cons hi,List.find?_cons]
   cases p x[i] with
   | true=>rfl
   | false=>exact ih (i+1) k (by omega) (by omega)
 have:=go x.length 0 k (by omega) (by omega)
 simpa using this
end
section
variable {α β R:Type} {x:List α} {B:Nat}
def first (g:Nat→α→Option β):List α→Nat→Option β
 | [],_=>none
 | a::r,i=>match g i a with
  | some c=>some c
  | none=>first g r (i+1)
theorem GI {g:Nat→α→Option β} {l:Nat→Int→R} {E:R} {O:β→R} (he:∀ k,l (k+1) (x.length:Int)=E)
  (h:∀ k i (hi:i < x.length),B≤k→l (k+1) (i:Int)=(match g i x[i] with | some c=>O c | none=>l k ((i+1:Nat):Int))) (k:Nat) (hk:B+x.length+1≤k):l k 0=(match first g x 0 with | some c=>O c | none=>E):=by
 have go:∀ m i k,i+m=x.length→B+m+1≤k→l k (i:Int)=(match first g (x.drop i) i with | some c=>O c | none=>E):=by
  intro m
  induction m with
  | zero=>
   intro i k h1 h2
   obtain rfl:i=x.length:=by omega
   obtain ⟨k,rfl⟩:∃ j,k=j+1:=⟨k-1,by omega⟩
   simp [he,first]
  | succ m ih=>
   intro i k h1 h2
   obtain ⟨k,rfl⟩:∃ j,k=j+1:=⟨k-1,by omega⟩
   have hi:i < x.length:=by omega
   rw [h k i hi (by omega),List.drop_eq_getElem_cons hi]
   simp only [first]
   cases g i x[i] with
   | some c=>rfl
   | none=>exact ih (i+1) k (by omega) (by omega)
 have:=go x.length 0 k (by omega) (by omega)
 simpa using this
theorem Pd {g g':Nat→α→Option β}:∀ (y:List α) (i:Nat),(∀ j a,y[j]?=some a→g (i+j) a=g' (i+j) a)→first g y i=first g' y i
 | [],_,_=>rfl
 | a::r,i,h=>by
  simp only [first]
  have h0:=h 0 a rfl
  rw [Nat.add_zero] at h0
  have hr:=Pd (g:=g) (g':=g') r (i+1) fun j b hb=>by have:=h (j+1) b (by simpa using hb);rwa [show i+(j+1)=i+1+j by omega] at this
  rw [h0,hr]
end
theorem LS:∀ a:List UInt8,slt a a=false
 | []=>rfl
 | a::r=>by
  have:=LS r
  simp only [slt,Op.bytesLess] at *
  simp [this]
theorem Qo:∀ {a b c:List UInt8},slt a b=true→slt b c=true→slt a c=true
 | [],b,c,h1,h2=>by
  cases c with
  | nil=>cases b<;>simp [slt,Op.bytesLess] at h2
  | cons=>rfl
 | a::r,b,c,h1,h2=>by
  cases b with
  | nil=>simp [slt,Op.bytesLess] at h1
  | cons b s=>
   cases c with
   | nil=>simp [slt,Op.bytesLess] at h2
   | cons c t=>
    have ih:=@Qo r s t
    simp only [slt,Op.bytesLess,Bool.or_eq_true,Bool.and_eq_true,decide_eq_true_eq,beq_iff_eq] at *
    rcases h1 with h1 | ⟨rfl,h1⟩
    ·rcases h2 with h2 | ⟨rfl,h2⟩
     ·exact .inl (UInt8.lt_trans h1 h2)
     ·exact .inl h1
    ·rcases h2 with h2 | ⟨rfl,h2⟩
     ·exact .inl h2
     ·exact .inr ⟨rfl,ih h1 h2⟩
theorem JS:∀ {xs:List (List UInt8)} {q:Option (List UInt8)},chain Ai q xs=true→xs.Nodup∧∀ p,q=some p→∀ y,y∈xs→slt p y=true
 | [],_,_=>⟨List.nodup_nil,fun _ _ _ h=>by cases h⟩
 | a::r,q,h=>by
  simp only [chain,Ai,Bool.and_eq_true] at h
  obtain ⟨⟨-,h1⟩,h2⟩:=h
  obtain ⟨h3,h4⟩:=JS h2
  refine ⟨List.nodup_cons.2 ⟨fun hm=>?_,h3⟩,fun p hp y hy=>?_⟩
  ·have:=h4 a rfl a hm
   rw [LS] at this;cases this
  ·subst hp
   rcases List.mem_cons.1 hy with e | e
   ·exact e▸h1
   ·exact Qo h1 (h4 a rfl y e)
theorem Pe {xs:List (List UInt8)} (h:pv xs=true):xs.Nodup:=(JS h).1
theorem rn {a b:Int} (h:b_ a b=true):a≤b:=by simpa [b_] using h
def iK (x:List aH) (n:Nm):Option aH:=x.find? fun t=>seq t.Name n
def yY (x:List aH) (n:Nm):Nm:=match iK x n with
 | some t=>t.gC
 | none=>[]
def upN (x:List aH):Nat→Nm→Nm
 | 0,a=>a
 | m+1,a=>cond (seq a []) [] (upN x m (yY x a))
theorem afo (x:List aH):∀ m,upN x m []=[]
 | 0=>rfl
 | _+1=>rfl
def uo (x:List aH) (m:Nat) (a:Nm):Bool:=seq (upN x m a) []
def known (x:List aH) (n:Nm):Bool:=seq n []||(iK x n).isSome
def vM (x:List aH) (q:Option aH) (t:aH):Bool:=Ai (q.map (·.Name)) t.Name&&known x t.gC
def Ia (x:List aH):Bool:=b_ (x.length:Int) 12&&(chain (vM x) none x&&x.all fun t=>uo x 4 t.gC)
theorem My {k:Nat} {x:List aH} {n:Nm} (hk:4194304≤k) (hx:x.length≤1048576):mh k x n=some (iK x n).isSome:=by
 unfold mh
 simp only [share]
 have h:=El (R:=Option Bool) (x:=x) (p:=fun t=>seq t.Name n) (B:=0) (l:=fun k i=>iter (ts:=yA) (R:=Bool) k (qK (some false)) x n i) (E:=some false) (O:=fun _=>some true)
  (fun k=>by simp only [iter,qK,cm,cond_false]<;>rfl)
  (fun k i hi _=>by simp only [iter,qK,cf hi,bI hi,cond_true,bL,bJ hi,bO hx hi]<;>rfl) k (by omega)
 refine h.trans ?_
 unfold iK
 cases x.find? fun t=>seq t.Name n<;>rfl
theorem R3 {k:Nat} {x:List aH} {n:Nm} (hk:4194304≤k) (hx:x.length≤1048576):uf k x n=some (yY x n):=by
 unfold uf
 simp only [share]
 have h:=El (R:=Option (List UInt8)) (x:=x) (p:=fun t=>seq t.Name n) (B:=0) (l:=fun k i=>iter (ts:=yB) (R:=List UInt8) k (qL (some [])) x n i) (E:=some []) (O:=fun t=>some t.gC)
  (fun k=>by simp only [iter,qL,cm,cond_false]<;>rfl)
  (fun k i hi _=>by simp only [iter,qL,cf hi,bI hi,cond_true,bL,bJ hi,bO hx hi]<;>rfl) k (by omega)
 refine h.trans ?_
 unfold yY iK
 cases x.find? fun t=>seq t.Name n<;>rfl
theorem aaC {x:List aH} {J:List aH→Int→Nm→Option Bool} {i:Int} (hx:x.length≤1048576):∀ (m j k:Nat) (a:Nm),j+m=5→4194304+m+1≤k→
  iter (ts:=pQ) (R:=Bool) k (iA J) x i a (j:Int)=J x i (upN x m a):=by
 intro m
 induction m with
 | zero=>
  intro j k a h hk
  obtain rfl:j=5:=by omega
  obtain ⟨k,rfl⟩:∃ q,k=q+1:=⟨k-1,by omega⟩
  simp only [iter,iA,R2 (show ¬ ((5:Nat):Int)≤(4:Int) by omega),cond_false]<;>rfl
 | succ m ih=>
  intro j k a h hk
  obtain ⟨k,rfl⟩:∃ q,k=q+1:=⟨k-1,by omega⟩
  simp only [iter,iA,FU (show ((j:Nat):Int)≤4 by omega),cond_true,upN,R3 (show 4194304≤k by omega) hx,Option.bind_some]
  cases h1:seq a [] with
  | true=>rw [dQ.1 h1];rfl
  | false=>
   simp only [Bool.not_false,cond_true,cond_false,bO (n:=5) (by omega) (show j < 5 by omega)]
   exact ih (j+1) k _ (by omega) (by omega)
theorem Mz {k:Nat} {x:List aH} (hk:4194304*3≤k) (hx:jt aH.sd x):jN k x=some (b_ (x.length:Int) 12&&(chain (vM x) none x&&x.all fun t=>uo x 5 t.Name)):=by
 unfold jN
 have h:=eY (R:=Option Bool) (x:=x) (p:=fun o t=>vM x o t&&uo x 5 t.Name) (B:=4194304*2) (l:=fun k i=>iter (ts:=d_) (R:=Bool) k (dA (some true)) x i) (E:=some true) (O:=some false)
  (fun k=>by simp only [iter,dA,cm,cond_false]<;>rfl)
  (fun k i hi hb=>by
   have hti:=hx.2 _ (dk hi)
   simp only [iter,dA,share,cf hi,bI hi,cond_true,bL,bJ hi,eg (show 4194304≤k by omega) hti.1,My (show 4194304≤k by omega) hx.1,Option.bind_some,vM,Ai,known]
   have up:=aaC (J:=fun afA afB afC=>cond (!seq afC ([]:List UInt8)) (some false) (iter (ts:=d_) (R:=Bool) k (dA (some true)) afA (aQ .i64 afB (1:Int)))) (i:=(i:Int)) hx.1 5 0 k x[i].Name (by omega) (by omega)
   rw [bO hx.1 hi] at up
   have up':=up.trans (show cond (!uo x 5 x[i].Name) (some false) (iter (ts:=d_) (R:=Bool) k (dA (some true)) x ((i+1:Nat):Int))=cond (uo x 5 x[i].Name) (iter (ts:=d_) (R:=Bool) k (dA (some true)) x ((i+1:Nat):Int)) (some false) by cases uo x 5 x[i].Name<;>rfl)
   cases cD x[i].Name with
   | false=>rfl
   | true=>
    rcases Nat.eq_zero_or_pos i with rfl | h0
    ·simp only [rm,kL]
     cases seq x[0].gC [] with
     | true=>exact up'
     | false=>
      cases (iK x x[0].gC).isSome with
      | false=>rfl
      | true=>exact up'
    ·have c8:i-1 < x.length:=by omega
     simp only [yX h0,pt h0 (by have:=hx.1;omega),bI c8,cond_true,bL,bJ c8,kM h0 hi,Option.map_some]
     cases slt x[i-1].Name x[i].Name with
     | false=>rfl
     | true=>
      cases seq x[i].gC [] with
      | true=>exact up'
      | false=>
       cases (iK x x[i].gC).isSome with
       | false=>rfl
       | true=>exact up') k (by have:=hx.1;omega)
 rw [wk,wm] at h
 simp only [share,cJ]
 cases b_ (x.length:Int) 12 with
 | false=>rfl
 | true=>exact h.trans (by cases chain (vM x) none x&&x.all fun t=>uo x 5 t.Name<;>rfl)
theorem T6 {x:List aH} {o:Option aH} {y:List aH}:chain (vM x) o y=(chain Ai (o.map (·.Name)) (y.map (·.Name))&&y.all fun t=>known x t.gC):=by
 unfold vM
 rw [wk,wm,JO]
theorem WU {x:List aH} (h:chain (vM x) none x=true) {t:aH} (ht:t∈x):iK x t.Name=some t:=by
 rw [T6] at h
 have AL:=(JS (Bool.and_eq_true_iff.1 h).1).1
 clear h
 unfold iK
 induction x with
 | nil=>cases ht
 | cons a r ih=>
  simp only [List.map_cons,List.nodup_cons] at AL
  rw [List.find?_cons]
  rcases List.mem_cons.1 ht with e | e
  ·subst e
   rw [show seq t.Name t.Name=true from dQ.2 rfl]
  ·cases ha:seq a.Name t.Name with
   | true=>
    have hm:t.Name∈r.map (·.Name):=List.mem_map_of_mem e
    rw [← dQ.1 ha] at hm
    exact absurd hm AL.1
   | false=>exact ih e AL.2
theorem MA {x:List aH}:∀ {y:List aH} {o:Option aH},chain (vM x) o y=true→∀ t,t∈y→cD t.Name=true∧known x t.gC=true
 | [],_,_,_,h=>by cases h
 | a::r,o,h,t,ht=>by
  simp only [chain,Bool.and_eq_true] at h
  rcases List.mem_cons.1 ht with e | e
  ·subst e
   simp only [vM,Ai,Bool.and_eq_true] at h
   exact ⟨h.1.1.1,h.1.2⟩
  ·exact MA h.2 t e
theorem T7 (x:List aH):(chain (vM x) none x&&x.all fun t=>uo x 5 t.Name)=(chain (vM x) none x&&x.all fun t=>uo x 4 t.gC):=by
 cases h:chain (vM x) none x with
 | false=>rfl
 | true=>
  rw [Bool.true_and,Bool.true_and]
  rw [Bool.eq_iff_iff,List.all_eq_true,List.all_eq_true]
  have key:∀ t,t∈x→uo x 5 t.Name=uo x 4 t.gC:=fun t ht=>by
   unfold uo
   have o8:seq t.Name []=false:=by
    cases e:seq t.Name [] with
    | false=>rfl
    | true=>have:=Pb e;rw [(MA h t ht).1] at this;cases this
   rw [upN,o8,cond_false,yY,WU h ht]
  exact ⟨fun h t ht=>by rw [← key t ht];exact h t ht,fun h t ht=>by rw [key t ht];exact h t ht⟩
theorem Oy {k:Nat} {x:List aH} (hk:4194304*3≤k) (hx:jt aH.sd x):jN k x=some (Ia x):=by
 rw [Mz hk hx,T7];rfl
theorem Aj {k:Nat} {x:List aH} {n:Nm} (hk:4194304≤k) (hx:x.length≤1048576):ig k x n=some (xB (fun t=>seq t.Name n) x 0):=by
 unfold ig
 simp only [share]
 exact pX (x:=x) (p:=fun t=>seq t.Name n) (l:=fun k i=>iter (ts:=yM) (R:=Int) k (qZ (some (-1))) n x (x.length:Int) i)
  (fun k=>by simp only [iter,qZ,cm,cond_false]<;>rfl)
  (fun k i hi=>by simp only [iter,qZ,cf hi,bI hi,cond_true,bL,bJ hi,bO hx hi]<;>rfl) k (by omega)
theorem aaD {x:List aH} {J:List aH→List aH→Int→Int→Option Bool} {c d:Int} (hx:x.length≤1048576) (Ya:∀ t,t∈x→known x t.gC=true):∀ (m j k:Nat) (a:Nm),j+m=4→4194304+m+1≤k→known x a=true→
  iter (ts:=pU) (R:=Bool) k (iF J) x (j:Int) a x c d=cond (uo x m a) (J x x c d) (some false):=by
 intro m
 induction m with
 | zero=>
  intro j k a h hk ha
  obtain rfl:j=4:=by omega
  obtain ⟨k,rfl⟩:∃ q,k=q+1:=⟨k-1,by omega⟩
  simp only [iter,iF,uo,upN,show bN 4 (aQ .i64 ((4:Nat):Int) 1)=true from rfl,cond_true]
  cases seq a []<;>rfl
 | succ m ih=>
  intro j k a h hk ha
  obtain ⟨k,rfl⟩:∃ q,k=q+1:=⟨k-1,by omega⟩
  simp only [iter,iF,uo,upN,bO (n:=4) (by omega) (show j < 4 by omega),fq (show ¬ (4:Int) < ((j+1:Nat):Int) by omega),cond_false,Aj (show 4194304≤k by omega) hx,Option.bind_some]
  cases h1:seq a [] with
  | true=>rfl
  | false=>
   simp only [known,h1,Bool.false_or,iK] at ha
   rcases eZ (fun t:aH=>seq t.Name a) x with ⟨k1,k2⟩ | ⟨q,hq,k1,k2,_⟩
   ·rw [k2] at ha;cases ha
   ·rw [k1,bI hq,bJ hq]
    simp only [Bool.not_false,cond_true,cond_false,bL,yY,iK,k2]
    exact ih (j+1) k _ (by omega) (by omega) (Ya _ (dk hq))
theorem Oz {k:Nat} {x:List aH} (hk:4194304*3≤k) (hx:jt aH.sd x):nr k x=some (Ia x):=by
 unfold nr Ia
 have h4:=fun J:List aH→Option Bool=>eY (R:=Option Bool) (x:=x) (p:=vM x) (B:=4194304*2) (l:=fun k i=>iter (ts:=q7) (R:=Bool) k (jr J) x x (x.length:Int) i) (E:=J x) (O:=some false)
  (fun k=>by simp only [iter,jr,cm,cond_false]<;>rfl)
  (fun k i hi hb=>by
   have hti:=hx.2 _ (dk hi)
   simp only [iter,jr,share,cf hi,bI hi,cond_true,bL,bJ hi,gg (show 4194304≤k by omega) hti.1,Aj (show 4194304≤k by omega) hx.1,Option.bind_some,vM,Ai,known,iK]
   rw [bO hx.1 hi]
   have ep:bN (xB (fun t:aH=>seq t.Name x[i].gC) x 0) 0=!(x.find? fun t=>seq t.Name x[i].gC).isSome:=by
    rcases eZ (fun t:aH=>seq t.Name x[i].gC) x with ⟨k1,k2⟩ | ⟨q,hq,k1,k2,_⟩
    ·rw [k1,k2];rfl
    ·rw [k1,k2,fq (by omega)];rfl
   rw [ep]
   cases cD x[i].Name with
   | false=>rfl
   | true=>
    rcases Nat.eq_zero_or_pos i with rfl | h0
    ·simp only [rm,kL]
     cases seq x[0].gC []<;>cases (x.find? fun t=>seq t.Name x[0].gC).isSome<;>rfl
    ·have c8:i-1 < x.length:=by omega
     simp only [yX h0,pt h0 (by have:=hx.1;omega),bI c8,cond_true,bL,bJ c8,kM h0 hi,Option.map_some]
     cases slt x[i-1].Name x[i].Name<;>cases seq x[i].gC []<;>cases (x.find? fun t=>seq t.Name x[i].gC).isSome<;>rfl) k (by have:=hx.1;omega)
 simp only [share,cJ]
 cases b_ (x.length:Int) 12 with
 | false=>rfl
 | true=>
  refine (h4 _).trans ?_
  cases hc:chain (vM x) none x with
  | false=>rfl
  | true=>
   have Ya:∀ t,t∈x→known x t.gC=true:=fun t ht=>(MA hc t ht).2
   have h10:=gf (R:=Option Bool) (x:=x) (p:=fun t=>uo x 4 t.gC) (B:=4194304*2) (l:=fun k i=>iter (ts:=pV) (R:=Bool) k (iG (some true)) x x (x.length:Int) i) (E:=some true) (O:=some false)
    (fun k=>by simp only [iter,iG,cm,cond_false]<;>rfl)
    (fun k i hi hb=>by
     simp only [iter,iG,share,cf hi,bI hi,cond_true,bL,bJ hi]
     refine (aaD hx.1 Ya 4 0 k _ (by omega) (by omega) (Ya _ (dk hi))).trans ?_
     rw [bO hx.1 hi]) k (by have:=hx.1;omega)
   exact h10.trans (by cases x.all fun t=>uo x 4 t.gC<;>rfl)
theorem ag0 (c x:Bool):cond c (some x) (some false)=some (c&&x):=by cases c<;>rfl
def FV (o:Option Int) (v:Int):Bool:=(b_ 1 v&&b_ v 5)&&(match o with | none=>true | some p=>bN p v)
def A4 (n:Nm):Bool:=seq n []||cD n
def zn (r:a_):Bool:=!bM (r.cw.length:Int) 0&&(b_ (r.cP.length:Int) 16&&(A4 r.Kind&&(A4 r.aX&&(chain FV none r.cw&&r.cP.all nb))))
theorem Qp {k:Nat} {r:a_} (hk:4194304*2≤k) (hr:r.sd):iS k r=some (zn r):=by
 obtain ⟨h1,h2,h3,h4⟩:=hr
 unfold iS
 have h9:=gf (R:=Option Bool) (x:=r.cP) (p:=nb) (B:=0) (l:=fun k i=>iter (ts:=n4) (R:=Bool) k (jO (some true)) r i) (E:=some true) (O:=some false)
  (fun k=>by simp only [iter,jO,cm,cond_false]<;>rfl)
  (fun k i hi _=>by
   simp only [iter,jO,cf hi,bI hi,cond_true,bL,xA hi,R1,Option.bind_some,bO h4 hi]
   cases nb r.cP[i]<;>rfl) k (by simp only [dc] at h4;omega)
 have h5:=fun J:a_→Option Bool=>eY (R:=Option Bool) (x:=r.cw) (p:=FV) (B:=0) (l:=fun k i=>iter (ts:=n5) (R:=Bool) k (jP J) r i) (E:=J r) (O:=some false)
  (fun k=>by simp only [iter,jP,cm,cond_false]<;>rfl)
  (fun k i hi _=>by
   simp only [iter,jP,share,cf hi,bI hi,cond_true,bL,bJ hi,Mw,Option.bind_some,bO h1.1 hi,FV]
   rcases Nat.eq_zero_or_pos i with rfl | h0
   ·simp only [rm,kL]
    cases b_ 1 r.cw[0]&&b_ r.cw[0] 5<;>rfl
   ·have c8:i-1 < r.cw.length:=by omega
    simp only [yX h0,pt h0 (by have:=h1.1;omega),bI c8,cond_true,bL,bJ c8,kM h0 hi,cJ]
    cases b_ 1 r.cw[i]&&b_ r.cw[i] 5<;>cases b_ r.cw[i] r.cw[i-1]<;>rfl) k (by have:=h1.1;omega)
 have go:cond false (some false) (iter (ts:=n5) (R:=Bool) k (jP fun v38=>iter (ts:=n4) (R:=Bool) k (jO (some true)) v38 (0:Int)) r (0:Int))=some (chain FV none r.cw&&r.cP.all nb):=by
  refine (h5 _).trans ?_
  cases chain FV none r.cw with
  | false=>rfl
  | true=>exact h9.trans (by cases r.cP.all nb<;>rfl)
 simp only [share,eg (show 4194304≤k by omega) h2,eg (show 4194304≤k by omega) h3,Option.bind_some,zn,A4,cJ]
 cases bM (r.cw.length:Int) 0 with
 | true=>rfl
 | false=>
  cases b_ (r.cP.length:Int) 16 with
  | false=>rfl
  | true=>
   cases seq r.Kind []<;>cases cD r.Kind<;>cases seq r.aX []<;>cases cD r.aX<;>first | rfl | exact go
theorem Qq {k:Nat} {r:a_} (hk:4194304*2≤k) (hr:r.sd):eU k r=some (zn r):=by
 obtain ⟨h1,h2,h3,h4⟩:=hr
 unfold eU
 have h5:=eY (R:=Option Bool) (x:=r.cw) (p:=FV) (B:=0) (l:=fun k i=>iter (ts:=j9) (R:=Bool) k (fY (some true)) r r.cw (r.cw.length:Int) i) (E:=some true) (O:=some false)
  (fun k=>by simp only [iter,fY,cm,cond_false]<;>rfl)
  (fun k i hi _=>by
   simp only [iter,fY,share,cf hi,bI hi,cond_true,bL,bJ hi,Option.bind_some,bO h1.1 hi,FV]
   rcases Nat.eq_zero_or_pos i with rfl | h0
   ·simp only [rm,kL]
    rw [cJ r.cw[0],cJ 5]
    cases b_ 1 r.cw[0]<;>cases b_ r.cw[0] 5<;>rfl
   ·have c8:i-1 < r.cw.length:=by omega
    simp only [yX h0,pt h0 (by have:=h1.1;omega),bI c8,cond_true,bL,bJ c8,kM h0 hi]
    rw [cJ r.cw[i],cJ 5,cJ r.cw[i-1]]
    cases b_ 1 r.cw[i]<;>cases b_ r.cw[i] 5<;>cases b_ r.cw[i] r.cw[i-1]<;>rfl) k (by have:=h1.1;omega)
 have go:iter (ts:=j9) (R:=Bool) k (fY (some true)) r r.cw (r.cw.length:Int) (0:Int)=some (chain FV none r.cw):=h5.trans (by cases chain FV none r.cw<;>rfl)
 simp only [share,gg (show 4194304≤k by omega) h2,gg (show 4194304≤k by omega) h3,KS (show 4194304≤k by omega) h4,Option.bind_some,zn,A4,cJ]
 cases bM (r.cw.length:Int) 0 with
 | true=>rfl
 | false=>
  cases b_ (r.cP.length:Int) 16<;>cases seq r.Kind []<;>cases cD r.Kind<;>cases seq r.aX []<;>cases cD r.aX<;>cases r.cP.all nb<;>first | rfl | (refine Eq.trans ?_ (show some (chain FV none r.cw&&false)=_ from rfl);rw [Bool.and_false];rfl) | (refine Eq.trans go ?_;simp)
def val:List UInt8→Int→Option Int
 | [],a=>some a
 | c::r,a=>if 48≤bt c∧bt c≤57 then val r (a*10+(bt c-48)) else none
theorem MB:∀ {s:List UInt8} {a v:Int},0≤a→val s a=some v→0≤v
 | [],a,v,h,e=>by simp only [val] at e;cases e;exact h
 | c::r,a,v,h,e=>by
  simp only [val] at e
  split at e
  ·exact MB (by omega) e
  ·cases e
theorem Yz:∀ {s:List UInt8} {a v:Int},0≤a→val s a=some v→v < (a+1)*10 ^ s.length
 | [],a,v,h,e=>by simp only [val] at e;cases e;simp only [List.length_nil,Int.pow_zero];omega
 | c::r,a,v,h,e=>by
  simp only [val] at e
  split at e
  ·have:=Yz (by omega) e
   refine Int.lt_of_lt_of_le this ?_
   rw [List.length_cons,Int.pow_succ,Int.mul_comm (10 ^ r.length) 10,← Int.mul_assoc]
   exact Int.mul_le_mul_of_nonneg_right (by omega) (Int.pow_nonneg (by omega))
  ·cases e
def num (s:List UInt8):Option Int:=if 1≤s.length∧s.length≤7∧(1 < s.length→bt (s.getD 0 0)≠48) then val s 0 else none
theorem Em {s:List UInt8} {v:Int} (h:num s=some v):0≤v∧v < 10000000:=by
 unfold num at h
 split at h
 ·rename_i hc
  have h1:=MB (by omega) h
  have h2:=Yz (by omega) h
  have h3:(10:Int) ^ s.length≤10 ^ 7:=by
   have:(10:Nat) ^ s.length≤10 ^ 7:=Nat.pow_le_pow_right (by omega) hc.2.1
   exact_mod_cast this
  omega
 ·cases h
def vOr {R:Type} (J:Int→Option R) (r:R):Option Int→Option R
 | some v=>J v
 | none=>some r
theorem R4 {s:List UInt8} {i:Nat} {a:Int} (hi:i < s.length):val (s.drop i) a=if 48≤bt s[i]∧bt s[i]≤57 then val (s.drop (i+1)) (a*10+(bt s[i]-48)) else none:=by
 rw [List.drop_eq_getElem_cons hi];rfl
theorem MC {s:List UInt8} {J:Int→Option Int}:∀ (m i k:Nat) (a:Int),i+m=s.length→m < k→s.length≤7→0≤a→a < 10 ^ i→
  iter (ts:=vA) (R:=Int) k (na J) s a (i:Int)=vOr J (-1) (val (s.drop i) a)
 | _,_,0,_,_,h,_,_,_=>by omega
 | 0,i,k+1,a,h,_,h7,h0,ha=>by
  obtain rfl:i=s.length:=by omega
  simp only [iter,na,cm,cond_false,List.drop_length,val,vOr]<;>rfl
 | m+1,i,k+1,a,h,hk,h7,h0,ha=>by
  have hi:i < s.length:=by omega
  have hr:=Mv s[i]
  simp only [iter,na,share,cf hi,bI hi,cond_true,bL,xA hi]
  rw [R4 hi]
  by_cases c1:bt s[i] < 48
  ·rw [mw c1,if_neg (by omega)];rfl
  ·by_cases c2:57 < bt s[i]
   ·rw [fq c1,mw c2,if_neg (by omega)];rfl
   ·rw [fq c1,fq c2,if_pos (by omega)]
    have afD:(10:Int) ^ i≤10 ^ 7:=by
     have:(10:Nat) ^ i≤10 ^ 7:=Nat.pow_le_pow_right (by omega) (by omega)
     exact_mod_cast this
    have e1:WO .i64 a 10=a*10:=tu (by omega) (by omega)
    have e2:yg .i64 (bt s[i])=bt s[i]:=tu (by omega) (by omega)
    simp only [cond_false,e1,e2]
    rw [ss (by omega) (by omega),Vz (by omega) (by omega),bO (n:=s.length) (by omega) hi,show a*10+bt s[i]-48=a*10+(bt s[i]-48) by omega]
    exact MC m (i+1) k _ (by omega) (by omega) h7 (by omega) (by rw [Int.pow_succ];omega)
theorem Pf {s:List UInt8} {J:Int→Option (Int×Bool)}:∀ (m i k:Nat) (a:Int),i+m=s.length→m < k→s.length≤7→0≤a→a < 10 ^ i→
  iter (ts:=xc) (R:=Int×Bool) k (oX J) s a (s.length:Int) (i:Int)=vOr J (0,false) (val (s.drop i) a)
 | _,_,0,_,_,h,_,_,_=>by omega
 | 0,i,k+1,a,h,_,h7,h0,ha=>by
  obtain rfl:i=s.length:=by omega
  simp only [iter,oX,cm,cond_false,List.drop_length,val,vOr]<;>rfl
 | m+1,i,k+1,a,h,hk,h7,h0,ha=>by
  have hi:i < s.length:=by omega
  have hr:=Mv s[i]
  simp only [iter,oX,share,cf hi,bI hi,cond_true,bL,xA hi]
  rw [R4 hi]
  by_cases c1:bt s[i] < 48
  ·rw [mw c1,if_neg (by omega)];rfl
  ·by_cases c2:57 < bt s[i]
   ·rw [fq c1,mw c2,if_neg (by omega)];rfl
   ·rw [fq c1,fq c2,if_pos (by omega)]
    have afD:(10:Int) ^ i≤10 ^ 7:=by
     have:(10:Nat) ^ i≤10 ^ 7:=Nat.pow_le_pow_right (by omega) (by omega)
     exact_mod_cast this
    have e1:WO .i64 a 10=a*10:=tu (by omega) (by omega)
    have e0:bS .u8 (bt s[i]) 48=bt s[i]-48:=wrap_u8 (by omega) (by omega)
    have e2:yg .i64 (bt s[i]-48)=bt s[i]-48:=tu (by omega) (by omega)
    simp only [cond_false,e0,e1,e2]
    rw [ss (by omega) (by omega),bO (n:=s.length) (by omega) hi]
    exact Pf m (i+1) k _ (by omega) (by omega) h7 (by omega) (by rw [Int.pow_succ];omega)
theorem MD {k:Nat} (s:List UInt8) (hk:4194304≤k):ot k s=some ((num s).getD (-1)):=by
 unfold ot
 simp only [share,Mw,Option.bind_some]
 by_cases h1:1≤s.length
 ·by_cases h7:s.length≤7
  ·have loop:=MC (s:=s) (J:=fun v=>some v) s.length 0 k 0 (by omega) (by omega) h7 (by omega) (by decide)
   rw [List.drop_zero,Int.natCast_zero] at loop
   rw [FU (by omega),FU (by omega)]
   simp only [Bool.and_true,Bool.not_true,cond_false,loop]
   by_cases h2:1 < s.length
   ·rw [mw (by omega),H9 (by omega) (by omega)]
    have e0:zI s 0=bt (s.getD 0 0):=rfl
    simp only [cond_true,bL,e0]
    by_cases h3:bt (s.getD 0 0)=48
    ·rw [h3,num,if_neg (fun h=>h.2.2 h2 h3)];rfl
    ·rw [show bM (bt (s.getD 0 0)) 48=false by simpa [bM] using h3,num,if_pos ⟨h1,h7,fun _=>h3⟩]
     cases val s 0<;>rfl
   ·rw [fq (by omega),num,if_pos ⟨h1,h7,fun h=>absurd h h2⟩]
    cases val s 0<;>rfl
  ·rw [FU (by omega),R2 (by omega),num,if_neg (by omega)];rfl
 ·rw [R2 (by omega),num,if_neg (by omega)];rfl
theorem Pg {k:Nat} (s:List UInt8) (hk:4194304≤k):p6 k s=some (match num s with | some v=>(v,true) | none=>(0,false)):=by
 unfold p6
 simp only [share]
 by_cases h1:s.length < 1
 ·rw [mw (by omega),num,if_neg (by omega)];rfl
 ·rw [fq (by omega)]
  by_cases h7:7 < s.length
  ·rw [mw (by omega),num,if_neg (by omega)];rfl
  ·have loop:=Pf (s:=s) (J:=fun v=>some (v,true)) s.length 0 k 0 (by omega) (by omega) (by omega) (by omega) (by decide)
   rw [List.drop_zero,Int.natCast_zero] at loop
   have e0:zI s 0=bt (s.getD 0 0):=rfl
   rw [fq (by omega),H9 (by omega) (by omega)]
   simp only [cond_false,bL,e0,loop]
   by_cases h3:bt (s.getD 0 0)=48
   ·rw [show bM (bt (s.getD 0 0)) 48=true by simpa [bM] using h3]
    by_cases h2:1 < s.length
    ·rw [mw (by omega),num,if_neg (fun h=>h.2.2 h2 h3)];rfl
    ·rw [fq (by omega),num,if_pos ⟨by omega,by omega,fun h=>absurd h h2⟩]
     cases val s 0<;>rfl
   ·rw [show bM (bt (s.getD 0 0)) 48=false by simpa [bM] using h3,num,if_pos ⟨by omega,by omega,fun _=>h3⟩]
    cases val s 0<;>rfl
theorem LU {k:Nat} {xs:List (List UInt8)} {s:List UInt8} (hk:4194304≤k) (hx:xs.length≤1048576):kr k xs s=some (xs.any fun y=>seq y s):=by
 unfold kr
 have h:=xz (x:=xs) (p:=fun y=>seq y s) (B:=0) (l:=fun k i=>iter (ts:=zJ) (R:=Bool) k (s7 (some false)) xs s i) (E:=some false) (O:=some true)
  (fun k=>by simp only [iter,s7,cm,cond_false]<;>rfl)
  (fun k i hi _=>by simp only [iter,s7,cf hi,bI hi,cond_true,bL,bJ hi,bO hx hi]<;>rfl) k (by omega)
 simp only [share]
 exact h.trans (by cases xs.any fun y=>seq y s<;>rfl)
theorem yZ {k:Nat} {f:aB} {s:List UInt8} (hk:4194304≤k) (hx:f.Words.length≤1048576):jo k ⟨f⟩ s=some (f.Words.any fun y=>seq y s):=by
 unfold jo
 have h:=xz (x:=f.Words) (p:=fun y=>seq y s) (B:=0) (l:=fun k i=>iter (ts:=nR) (R:=Bool) k (gu (some false)) s f.Words (f.Words.length:Int) i) (E:=some false) (O:=some true)
  (fun k=>by simp only [iter,gu,cm,cond_false]<;>rfl)
  (fun k i hi _=>by simp only [iter,gu,cf hi,bI hi,cond_true,bL,bJ hi,bO hx hi]<;>rfl) k (by omega)
 simp only [share]
 exact h.trans (by cases f.Words.any fun y=>seq y s<;>rfl)
def seen (c:UInt8):Bool:=b_ 33 (bt c)&&b_ (bt c) 126
def Qr (f:aB) (s:List UInt8):Bool:=(b_ f.bP (s.length:Int)&&b_ (s.length:Int) f.bW)&&s.all seen
theorem y5 {k:Nat} {f:aB} {s:List UInt8} (hk:4194304≤k) (hs:dc s):jn k ⟨f⟩ s=some (Qr f s):=by
 unfold jn Qr
 have h:=gf (x:=s) (p:=seen) (B:=0) (l:=fun k i=>iter (ts:=nQ) (R:=Bool) k (gr (some true)) s (s.length:Int) i) (E:=some true) (O:=some false)
  (fun k=>by simp only [iter,gr,cm,cond_false]<;>rfl)
  (fun k i hi _=>by
   simp only [iter,gr,share,cf hi,bI hi,cond_true,bL,xA hi,bO hs hi,seen,cJ (bt s[i]),cJ 126]
   cases b_ 33 (bt s[i])<;>cases b_ (bt s[i]) 126<;>rfl) k (by have:s.length≤1048576:=hs;omega)
 simp only [share,h,cJ]
 cases b_ f.bP (s.length:Int)<;>cases b_ (s.length:Int) f.bW<;>cases s.all seen<;>rfl
def inR (f:aB):Option Int→Bool
 | some v=>b_ f.bP v&&b_ v f.bW
 | none=>false
def fits (f:aB) (s:List UInt8):Bool:=cond (bM f.Kind 1) (inR f (num s)) (cond (bM f.Kind 2) (!seq s []&&f.Words.any fun y=>seq y s) (cond (bM f.Kind 3) (!seq s []&&Qr f s) (cond (bM f.Kind 4) (cD s) false)))
theorem YA (c:UInt8):yg .i64 (bt c)=bt c:=by have:=Mv c;exact tu (by omega) (by omega)
theorem GJ {k:Nat} {f:aB} {s:List UInt8} (hk:4194304≤k) (hf:f.Words.length≤1048576) (hs:dc s):ll k f s=some (fits f s):=by
 unfold ll fits
 have h:=fun J=>gf (x:=s) (p:=seen) (B:=0) (l:=fun k i=>iter (ts:=vB) (R:=Bool) k (ng J) s f i) (E:=J s f) (O:=some false)
  (fun k=>by simp only [iter,ng,cm,cond_false]<;>rfl)
  (fun k i hi _=>by
   simp only [iter,ng,cf hi,bI hi,cond_true,bL,xA hi,bO hs hi,Mw,Option.bind_some,YA,seen]
   cases b_ 33 (bt s[i])<;>cases b_ (bt s[i]) 126<;>rfl) k (by have:s.length≤1048576:=hs;omega)
 simp only [share,h,MD s hk,LU hk hf,eg hk hs,Mw,Option.bind_some]
 cases bM f.Kind 1 with
 | true=>
  cases hn:num s with
  | none=>rfl
  | some v=>
   have:=Em hn
   simp only [Option.getD_some,cond_true,FU this.1,inR]
 | false=>
  cases bM f.Kind 2 with
  | true=>cases seq s []<;>rfl
  | false=>
   cases bM f.Kind 3 with
   | true=>
    simp only [cond_true,cond_false,Qr]
    cases s.all seen<;>cases seq s []<;>cases b_ f.bP (s.length:Int)<;>cases b_ (s.length:Int) f.bW<;>rfl
   | false=>cases bM f.Kind 4<;>rfl
theorem acB {s:List UInt8} (h:seq s []=true):num s=none:=by
 have e:s=[]:=by simpa [seq] using h
 subst e;rfl
theorem tv {k:Nat} {f:aB} {s:List UInt8} (hk:4194304≤k):gW k ⟨f⟩ s=some (inR f (num s)):=by
 unfold gW
 simp only [Pg s hk,Option.bind_some]
 cases num s with
 | none=>rfl
 | some v=>simp only [inR,cond_true];cases b_ f.bP v<;>rfl
theorem sI {k:Nat} {f:aB} {s:List UInt8} (hk:4194304≤k) (hf:f.Words.length≤1048576) (hs:dc s):dV k f s=some (fits f s):=by
 unfold dV ui tq tp tn tl fits n6
 cases bM f.Kind 1 with
 | true=>
  simp only [cond_true,Option.bind_some,xe,tv hk,yZ hk hf,y5 hk hs,gg hk hs]
  cases he:seq s [] with
  | true=>rw [acB he];rfl
  | false=>rfl
 | false=>
  simp only [cond_false]
  cases bM f.Kind 2 with
  | true=>simp only [cond_true,Option.bind_some,xe,tv hk,yZ hk hf,y5 hk hs,gg hk hs];cases seq s []<;>rfl
  | false=>
   simp only [cond_false]
   cases bM f.Kind 3 with
   | true=>simp only [cond_true,Option.bind_some,xe,tv hk,yZ hk hf,y5 hk hs,gg hk hs];cases seq s []<;>rfl
   | false=>
    simp only [cond_false]
    cases bM f.Kind 4 with
    | true=>
     simp only [cond_true,Option.bind_some,xe,tv hk,yZ hk hf,y5 hk hs,gg hk hs]
     cases he:seq s [] with
     | true=>rw [Pb he];rfl
     | false=>rfl
    | false=>rfl
theorem FW {k:Nat} {xs:List (List UInt8)} (hk:8388608≤k) (hx:jt dc xs):jM k xs=some (pv xs):=by
 unfold jM
 have h:=eY (x:=xs) (p:=Ai) (B:=4194304) (l:=fun k i=>iter (ts:=qF) (R:=Bool) k (ji (some true)) xs i) (E:=some true) (O:=some false)
  (fun k=>by simp only [iter,ji,cm,cond_false]<;>rfl)
  (fun k i hi hb=>by
   simp only [iter,ji,share,cf hi,bI hi,cond_true,bL,bJ hi,eg hb (hx.2 _ (dk hi)),Option.bind_some,bO hx.1 hi]
   rcases Nat.eq_zero_or_pos i with rfl | h0
   ·simp only [rm,kL,Ai]
    cases cD xs[0]<;>rfl
   ·have c8:i-1 < xs.length:=by omega
    simp only [yX h0,pt h0 (by have:=hx.1;omega),bI c8,cond_true,bL,bJ c8,kM h0 hi,Ai]
    cases cD xs[i]<;>cases slt xs[i-1] xs[i]<;>rfl) k (by have:=hx.1;omega)
 simp only [share]
 exact h.trans (by unfold pv;cases chain Ai none xs<;>rfl)
theorem sJ {k:Nat} {xs:List (List UInt8)} (hk:8388608≤k) (hx:jt dc xs):eA k xs=some (pv xs):=by
 unfold eA
 have h:=eY (x:=xs) (p:=Ai) (B:=4194304) (l:=fun k i=>iter (ts:=nP) (R:=Bool) k (gq (some true)) xs xs (xs.length:Int) i) (E:=some true) (O:=some false)
  (fun k=>by simp only [iter,gq,cm,cond_false]<;>rfl)
  (fun k i hi hb=>by
   simp only [iter,gq,share,cf hi,bI hi,cond_true,bL,bJ hi,gg hb (hx.2 _ (dk hi)),Option.bind_some,bO hx.1 hi]
   rcases Nat.eq_zero_or_pos i with rfl | h0
   ·simp only [rm,kL,Ai]
    cases cD xs[0]<;>rfl
   ·have c8:i-1 < xs.length:=by omega
    simp only [yX h0,pt h0 (by have:=hx.1;omega),bI c8,cond_true,bL,bJ c8,kM h0 hi,Ai]
    cases cD xs[i]<;>cases slt xs[i-1] xs[i]<;>rfl) k (by have:=hx.1;omega)
 simp only [share]
 exact h.trans (by unfold pv;cases chain Ai none xs<;>rfl)
def Qs (to:List UInt8):List aC→Nat→Int
 | [],_=>-1
 | s::r,i=>cond (seq s.Kind to) (i:Int) (Qs to r (i+1))
theorem R5 (to:List UInt8):∀ (xs:List aC) (i:Nat),b_ 0 (Qs to xs i)=xs.any fun s=>seq s.Kind to
 | [],i=>rfl
 | s::r,i=>by
  simp only [Qs,List.any_cons]
  cases seq s.Kind to with
  | true=>exact FU (by simp)
  | false=>exact R5 to r (i+1)
theorem Ph {xs:List aC} {to:List UInt8} (hx:xs.length≤1048576):∀ m i k:Nat,i+m=xs.length→m < k→
  iter (ts:=wW) (R:=Int) k (oP (some (-1))) xs to (i:Int)=some (Qs to (xs.drop i) i)
 | _,_,0,_,h=>by omega
 | 0,i,k+1,h,_=>by
  obtain rfl:i=xs.length:=by omega
  simp only [iter,oP,cm,cond_false,List.drop_length,Qs]<;>rfl
 | m+1,i,k+1,h,hk=>by
  have hi:i < xs.length:=by omega
  have ih:=Ph (to:=to) hx m (i+1) k (by omega) (by omega)
  simp only [iter,oP,cf hi,bI hi,cond_true,bL,bJ hi,bO hx hi]
  rw [List.drop_eq_getElem_cons hi]
  simp only [Qs]
  cases seq xs[i].Kind to with
  | true=>rfl
  | false=>exact ih
theorem En {k:Nat} {xs:List aC} {to:List UInt8} (hk:4194304≤k) (hx:xs.length≤1048576):ku k xs to=some (Qs to xs 0):=by
 unfold ku
 simp only [share]
 exact Ph hx xs.length 0 k (by omega) (by omega)
def kinds (xs:List aC):List (List UInt8):=xs.map (·.Kind)
theorem WV (xs:List aC) (to:List UInt8):(kinds xs).any (fun k=>seq k to)=xs.any fun s=>seq s.Kind to:=by simp only [kinds,List.any_map];rfl
def bare (f:aB):Bool:=
 cond (bM f.Kind 1) (bM (f.Words.length:Int) 0&&(seq f.To []&&bM f.cu 0))
 (cond (bM f.Kind 2) (bM f.bP 0&&(bM f.bW 0&&(seq f.To []&&(bM f.cu 0&&seq f.aY []))))
 (cond (bM f.Kind 3) (bM (f.Words.length:Int) 0&&(seq f.To []&&(bM f.cu 0&&seq f.aY [])))
 (cond (bM f.Kind 4) (bM f.bP 0&&(bM f.bW 0&&(bM (f.Words.length:Int) 0&&seq f.aY []))) false)))
def sound (ks:List (List UInt8)) (f:aB):Bool:=
 cond (bM f.Kind 1) (b_ 0 f.bP&&(b_ f.bP f.bW&&(b_ f.bW 1000000&&(seq f.aY []||cD f.aY))))
 (cond (bM f.Kind 2) (b_ 1 (f.Words.length:Int)&&(b_ (f.Words.length:Int) 6&&pv f.Words))
 (cond (bM f.Kind 3) (b_ 1 f.bP&&(b_ f.bP f.bW&&b_ f.bW 40))
 (cond (bM f.Kind 4) (ks.any (fun k=>seq k f.To)&&(b_ 1 f.cu&&(b_ f.cu 3&&(seq f.Default []&&(!bM f.cu 2||!f.cN))))) false)))
def o9 (ks:List (List UInt8)) (f:aB):Bool:=cD f.Name&&(bare f&&((seq f.Default []||fits f f.Default)&&sound ks f))
theorem KT {m n c:Int} (h:bM m n=true) (hn:n≠c):bM m c=false:=by
 simp only [bM,beq_iff_eq] at h ⊢
 rw [beq_eq_false_iff_ne,h];exact hn
theorem acC {f:aB} (h1:bM f.Kind 1=false) (h2:bM f.Kind 2=false) (h3:bM f.Kind 3=false) (h4:bM f.Kind 4=false):bare f=false:=by
 simp only [bare,h1,h2,h3,h4,cond_false]
theorem YB (n:Nat):bN 0 (n:Int)=!bM (n:Int) 0:=by
 by_cases h:n=0
 ·subst h;rfl
 ·rw [mw (by omega),show bM (n:Int) 0=false by simp [bM];omega];rfl
theorem YC (k:Nat) (f:aB) (ks:List (List UInt8)):∃ b,yx k f=some b∧(b&&sound ks f)=(bare f&&sound ks f):=by
 unfold yx
 simp only [share,YB]
 have key:∀ b:Bool,(sound ks f=true→b=bare f)→(b&&sound ks f)=(bare f&&sound ks f):=fun b h=>by
  cases hs:sound ks f with
  | true=>rw [h hs]
  | false=>simp
 cases h1:bM f.Kind 1 with
 | true=>
  have e2:=KT h1 (c:=2) (by decide)
  have e4:=KT h1 (c:=4) (by decide)
  refine ⟨bare f,?_,rfl⟩
  simp only [e2,e4,bare,h1]
  cases bM (f.Words.length:Int) 0<;>cases seq f.To []<;>rfl
 | false=>
  cases h2:bM f.Kind 2 with
  | true=>
   have e3:=KT h2 (c:=3) (by decide)
   have e4:=KT h2 (c:=4) (by decide)
   refine ⟨bare f,?_,rfl⟩
   simp only [e3,e4,bare,h1,h2]
   cases bM f.bP 0<;>cases bM f.bW 0<;>cases seq f.aY []<;>cases seq f.To []<;>cases bM f.cu 0<;>rfl
  | false=>
   cases h3:bM f.Kind 3 with
   | true=>
    have e4:=KT h3 (c:=4) (by decide)
    refine ⟨bare f,?_,rfl⟩
    simp only [e4,bare,h1,h2,h3]
    cases seq f.aY []<;>cases bM (f.Words.length:Int) 0<;>cases seq f.To []<;>cases bM f.cu 0<;>rfl
   | false=>
    cases h4:bM f.Kind 4 with
    | true=>
     refine ⟨bare f,?_,rfl⟩
     simp only [bare,h1,h2,h3,h4]
     cases bM f.bP 0<;>cases bM f.bW 0<;>cases seq f.aY []<;>cases bM (f.Words.length:Int) 0<;>rfl
    | false=>
     have hs:sound ks f=false:=by simp only [sound,h1,h2,h3,h4,cond_false]
     rw [hs]
     cases bM f.bP 0<;>cases bM f.bW 0<;>cases seq f.aY []<;>cases bM (f.Words.length:Int) 0<;>cases seq f.To []<;>cases bM f.cu 0<;>exact ⟨_,rfl,by simp⟩
theorem R6 {k:Nat} {xs:List aC} {f:aB} (hk:8388608≤k) (hx:xs.length≤1048576) (hf:f.sd):qG k xs f=some (o9 (kinds xs) f):=by
 obtain ⟨f1,-,-,-,f5,-,-,-,-,f10,f11⟩:=hf
 obtain ⟨b,T8,OA⟩:=YC k f (kinds xs)
 unfold qG o9
 simp only [share,Mw,eg (show 4194304≤k by omega) f1,eg (show 4194304≤k by omega) f11,T8,GJ (show 4194304≤k by omega) f5.1 f10,FW hk f5,En (show 4194304≤k by omega) hx,Option.bind_some,R5,← WV]
 have e:(bare f&&((seq f.Default []||fits f f.Default)&&sound (kinds xs) f))=(b&&((seq f.Default []||fits f f.Default)&&sound (kinds xs) f)):=by
  cases hs:sound (kinds xs) f with
  | false=>simp
  | true=>rw [hs] at OA;simp only [Bool.and_true] at OA ⊢;rw [OA]
 rw [e]
 have fin:∀ c:Bool,cond c (some false) (cond (bM f.Kind 1) (cond (b_ 0 f.bP) (cond (b_ f.bP f.bW) (cond (b_ f.bW 1000000) (cond (seq f.aY []) (some true) (some (cD f.aY))) (some false)) (some false)) (some false))
   (cond (bM f.Kind 2) (cond (b_ 1 (f.Words.length:Int)&&b_ (f.Words.length:Int) 6) (some (pv f.Words)) (some false))
   (cond (bM f.Kind 3) (cond (b_ 1 f.bP) (cond (b_ f.bP f.bW) (some (b_ f.bW 40)) (some false)) (some false))
   (cond (bM f.Kind 4) (cond ((kinds xs).any fun k=>seq k f.To) (cond (b_ 1 f.cu&&b_ f.cu 3) (cond (seq f.Default []) (cond (!bM f.cu 2) (some true) (some (!f.cN))) (some false)) (some false)) (some false)) (some false)))))=some (!c&&sound (kinds xs) f):=by
  intro c
  cases c with
  | true=>rfl
  | false=>
   simp only [cond_false,Bool.not_false,Bool.true_and,sound]
   cases bM f.Kind 1 with
   | true=>cases b_ 0 f.bP<;>cases b_ f.bP f.bW<;>cases b_ f.bW 1000000<;>cases seq f.aY []<;>rfl
   | false=>cases bM f.Kind 2 with
    | true=>cases b_ 1 (f.Words.length:Int)<;>cases b_ (f.Words.length:Int) 6<;>rfl
    | false=>cases bM f.Kind 3 with
     | true=>cases b_ 1 f.bP<;>cases b_ f.bP f.bW<;>rfl
     | false=>cases bM f.Kind 4 with
      | true=>cases (kinds xs).any fun k=>seq k f.To<;>cases b_ 1 f.cu<;>cases b_ f.cu 3<;>cases seq f.Default []<;>cases bM f.cu 2<;>rfl
      | false=>rfl
 simp only [fin]
 cases cD f.Name<;>cases b<;>cases seq f.Default []<;>cases fits f f.Default<;>rfl
section
variable {α R:Type} {x:List α} {B:Nat}
def T9 (p:Nat→α→Bool):Nat→List α→Bool
 | _,[]=>true
 | i,a::r=>p i a&&T9 p (i+1) r
theorem WW {p:Nat→α→Bool} {l:Nat→Int→R} {E O:R} (he:∀ k,l (k+1) (x.length:Int)=E)
  (h:∀ k i (hi:i < x.length),B≤k→l (k+1) (i:Int)=cond (p i x[i]) (l k ((i+1:Nat):Int)) O) (k:Nat) (hk:B+x.length+1≤k):l k 0=cond (T9 p 0 x) E O:=by
 have go:∀ m i k,i+m=x.length→B+m+1≤k→l k (i:Int)=cond (T9 p i (x.drop i)) E O:=by
  intro m
  induction m with
  | zero=>
   intro i k h1 h2
   obtain rfl:i=x.length:=by omega
   obtain ⟨k,rfl⟩:∃ j,k=j+1:=⟨k-1,by omega⟩
   simp [he,T9]
  | succ m ih=>
   intro i k h1 h2
   obtain ⟨k,rfl⟩:∃ j,k=j+1:=⟨k-1,by omega⟩
   have hi:i < x.length:=by omega
   rw [h k i hi (by omega),List.drop_eq_getElem_cons hi]
   simp only [T9]
   cases p i x[i] with
   | true=>simpa using ih (i+1) k (by omega) (by omega)
   | false=>rfl
 have:=go x.length 0 k (by omega) (by omega)
 simpa using this
end
def FX:List (List UInt8)→List aB→Bool
 | _,[]=>true
 | q,f::r=>!(q.any fun y=>seq y f.Name)&&FX (q++[f.Name]) r
def nx (ks:List (List UInt8)) (s:aC):Bool:=b_ (s.aT.length:Int) 6&&(s.aT.all (o9 ks)&&FX [] s.aT)
def eh (xs:List aC):Bool:=b_ (xs.length:Int) 6&&(pv (kinds xs)&&xs.all (nx (kinds xs)))
theorem Pj {p:aB→Bool}:∀ (r pre:List aB),T9 (fun i f=>p f&&!(((pre++r).take i).any fun g=>seq g.Name f.Name)) pre.length r=(r.all p&&FX (pre.map (·.Name)) r)
 | [],_=>rfl
 | f::r,pre=>by
  have ih:=Pj (p:=p) r (pre++[f])
  simp only [List.append_assoc,List.singleton_append,List.length_append,List.length_cons,List.length_nil,List.map_append,List.map_cons,List.map_nil] at ih
  simp only [T9,FX,List.all_cons]
  rw [ih,List.take_left]
  have e:(pre.any fun g=>seq g.Name f.Name)=((pre.map (·.Name)).any fun y=>seq y f.Name):=by rw [List.any_map];rfl
  rw [e]
  cases p f<;>cases (pre.map (·.Name)).any fun y=>seq y f.Name<;>cases r.all p<;>rfl
theorem YD {k:Nat} {xs:List aC} {i:Int} {q:Nat} {s:aC} {J:List aC→Int→Int→aC→Option Bool} (hq:q < s.aT.length) (hs:s.aT.length≤1048576) (hk:4194304≤k):
  iter (ts:=iR) (R:=Bool) k (eP J) xs i (q:Int) (0:Int) s=cond ((s.aT.take q).any fun g=>seq g.Name s.aT[q].Name) (some false) (J xs i q s):=by
 have hl:(s.aT.take q).length=q:=by simp;omega
 refine xz (x:=s.aT.take q) (p:=fun g=>seq g.Name s.aT[q].Name) (B:=0) (l:=fun k j=>iter (ts:=iR) (R:=Bool) k (eP J) xs i (q:Int) j s)
  (fun k=>by simp only [iter,eP,hl,cm,cond_false]<;>rfl)
  (fun k j hj _=>?_) k (by omega)
 rw [hl] at hj
 have lu:j < s.aT.length:=by omega
 simp only [iter,eP,cf hj,bI lu,bI hq,cond_true,bL,bJ lu,bJ hq,bO (n:=q) (by omega) hj,List.getElem_take]<;>rfl
theorem YE {k:Nat} {xs:List aC} {i:Int} {s:aC} {J:List aC→Int→Option Bool} (hx:xs.length≤1048576) (hs:s.sd) (hk:4194304*3≤k):
  iter (ts:=fe) (R:=Bool) k (dF J) xs i (0:Int) s=cond (s.aT.all (o9 (kinds xs))&&FX [] s.aT) (J xs i) (some false):=by
 have h:=WW (x:=s.aT) (p:=fun q f=>o9 (kinds xs) f&&!((s.aT.take q).any fun g=>seq g.Name f.Name)) (B:=4194304*2) (l:=fun k q=>iter (ts:=fe) (R:=Bool) k (dF J) xs i q s) (E:=J xs i) (O:=some false)
  (fun k=>by simp only [iter,dF,cm,cond_false]<;>rfl)
  (fun k q hq hb=>by
   simp only [iter,dF,share,cf hq,bI hq,cond_true,bL,bJ hq,R6 (show 8388608≤k by omega) hx (hs.2.2 _ (dk hq)),Option.bind_some]
   cases o9 (kinds xs) s.aT[q] with
   | false=>rfl
   | true=>
    simp only [Bool.not_true,cond_false,Bool.true_and]
    refine (YD hq hs.2.1 (by omega)).trans ?_
    rw [bO hs.2.1 hq]
    cases (s.aT.take q).any fun g=>seq g.Name s.aT[q].Name<;>rfl) k (by have:=hs.2.1;omega)
 have e:=Pj (p:=o9 (kinds xs)) s.aT []
 simp only [List.nil_append,List.length_nil,List.map_nil] at e
 rw [e] at h
 exact h
theorem ME {k:Nat} {xs:List aC} (hx:jt aC.sd xs) (hk:4194304*4≤k):lX k xs=some (eh xs):=by
 unfold lX
 have h:=eY (x:=xs) (p:=fun o s=>Ai (o.map (·.Kind)) s.Kind&&nx (kinds xs) s) (B:=4194304*3) (l:=fun k i=>iter (ts:=fH) (R:=Bool) k (dO (some true)) xs i) (E:=some true) (O:=some false)
  (fun k=>by simp only [iter,dO,cm,cond_false]<;>rfl)
  (fun k i hi hb=>by
   have hsi:=hx.2 _ (dk hi)
   simp only [iter,dO,share,cf hi,bI hi,cond_true,bL,bJ hi,eg (show 4194304≤k by omega) hsi.1,Option.bind_some,bO hx.1 hi]
   have fin:∀ c:Bool,cond c (some false) (iter (ts:=fe) (R:=Bool) k (dF fun afE afF=>iter (ts:=fH) (R:=Bool) k (dO (some true)) afE (aQ .i64 afF 1)) xs (i:Int) (0:Int) xs[i]) =
     cond (!c&&(xs[i].aT.all (o9 (kinds xs))&&FX [] xs[i].aT)) (iter (ts:=fH) (R:=Bool) k (dO (some true)) xs ((i+1:Nat):Int)) (some false):=by
    intro c
    cases c with
    | true=>rfl
    | false=>
     refine (YE hx.1 hsi (by omega)).trans ?_
     rw [bO hx.1 hi]
     rfl
   simp only [Ai,nx,← VA]
   rcases Nat.eq_zero_or_pos i with rfl | h0
   ·simp only [rm,kL]
    cases cD xs[0].Kind with
    | false=>exact (fin true).trans rfl
    | true=>exact fin _
   ·have c8:i-1 < xs.length:=by omega
    simp only [yX h0,pt h0 (by have:=hx.1;omega),bI c8,cond_true,bL,bJ c8,kM h0 hi,Option.map_some]
    cases cD xs[i].Kind with
    | false=>exact (fin true).trans rfl
    | true=>
     cases slt xs[i-1].Kind xs[i].Kind with
     | false=>exact (fin true).trans rfl
     | true=>exact fin _) k (by have:=hx.1;omega)
 simp only [share]
 have e1:chain (fun o s=>Ai (o.map (·.Kind)) s.Kind&&nx (kinds xs) s) none xs=(pv (kinds xs)&&xs.all (nx (kinds xs))):=by
  rw [wk,wm]
  congr 1
  exact (JO (f:=aC.Kind) (p:=Ai) xs none).symm
 rw [e1] at h
 simp only [eh,cJ]
 cases b_ (xs.length:Int) 6 with
 | false=>rfl
 | true=>exact h.trans (by cases pv (kinds xs)&&xs.all (nx (kinds xs))<;>rfl)
theorem R7 {k:Nat} {f:aB} {ks:List (List UInt8)} (hk:4194304≤k) (hx:ks.length≤1048576) (h4:bM f.Kind 4=true):iC k ⟨f⟩ ks=some (sound ks f):=by
 unfold iC
 simp only [share]
 have h:=fun J:bD→Bool→Option Bool=>fL (S:=Bool) (x:=ks) (f:=fun (t:Bool) y=>t||seq y f.To) (B:=0) (l:=fun k t i=>iter (ts:=ml) (R:=Bool) k (fK J) ⟨f⟩ t ks (ks.length:Int) i) (J:=fun t=>J ⟨f⟩ t) (fun _ _=>True)
  (fun k t _=>by simp only [iter,fK,cm,cond_false]<;>rfl)
  (fun k i t hi _ _=>⟨by simp only [iter,fK,share,cf hi,bI hi,cond_true,bL,bJ hi,bO hx hi];cases t<;>rfl,trivial⟩) k false (by omega) trivial
 have e:∀ (y:List (List UInt8)) (t:Bool),y.foldl (fun (t:Bool) y=>t||seq y f.To) t=(t||y.any fun k=>seq k f.To):=by
  intro y
  induction y with
  | nil=>intro t;simp
  | cons a r ih=>intro t;rw [List.foldl_cons,ih,List.any_cons,Bool.or_assoc]
 refine (h _).trans ?_
 rw [e]
 have e1:=KT h4 (c:=1) (by decide)
 have e2:=KT h4 (c:=2) (by decide)
 have e3:=KT h4 (c:=3) (by decide)
 simp only [e,sound,e1,e2,e3,h4,Bool.false_or]
 cases ks.any fun k=>seq k f.To<;>cases b_ 1 f.cu<;>cases b_ f.cu 3<;>cases seq f.Default []<;>cases bM f.cu 2<;>cases f.cN<;>rfl
def g9 (n:List UInt8) (m:List cb):Int:=l8 (fun p:cb=>seq n p.Key) (fun p:cb=>p.Mb) (0:Int) m
def see (n:List UInt8) (m:List cb):List cb:=nV (fun p:cb=>seq n p.Key) m ⟨n,aQ .i64 (g9 n m) 1⟩
theorem Pk (n n':List UInt8) (m:List cb):g9 n' (see n m)=cond (seq n' n) (aQ .i64 (g9 n m) 1) (g9 n' m):=JR (key:=cb.Key) (y:=⟨n,aQ .i64 (g9 n m) 1⟩)
def VB (ks:List (List UInt8)) (m:List cb) (_:Nat) (f:aB):List cb ⊕ Option Bool:=cond (o9 ks f&&!bN 1 (g9 f.Name (see f.Name m))) (.inl (see f.Name m)) (.inr (some false))
theorem ab4 (ks:List (List UInt8)):∀ (r:List aB) (i:Nat) (m:List cb) (q:List (List UInt8)),(∀ n,g9 n m=if q.any (fun y=>seq y n) then 1 else 0)→fin (fun _=>some true) (scan (VB ks) r i m)=some (r.all (o9 ks)&&FX q r)
 | [],_,_,_,_=>rfl
 | f::r,i,m,q,h=>by
  simp only [scan,VB,List.all_cons,FX]
  have e0:g9 f.Name (see f.Name m)=aQ .i64 (g9 f.Name m) 1:=by rw [Pk,Dq];rfl
  rw [e0,h f.Name]
  cases o9 ks f with
  | false=>rfl
  | true=>
   cases hq:q.any fun y=>seq y f.Name with
   | true=>
    simp only [if_true]
    rw [show (aQ .i64 (1:Int) 1)=2 from rfl,show bN 1 2=true from rfl]
    simp [fin]
   | false=>
    simp only [Bool.false_eq_true,if_false]
    rw [show (aQ .i64 (0:Int) 1)=1 from rfl,show bN 1 1=false from rfl]
    simp only [Bool.not_false,Bool.and_true,cond_true,Bool.true_and]
    refine ab4 ks r (i+1) _ (q++[f.Name]) fun n=>?_
    rw [Pk,h f.Name,h n,hq,List.any_append]
    cases hn:seq n f.Name with
    | true=>
     have e:=dQ.1 hn
     subst e
     simp [Dq];rfl
    | false=>
     rw [show (([f.Name]:List (List UInt8)).any fun y=>seq y n)=false by simp [H_ f.Name n,hn],Bool.or_false];rfl
set_option maxHeartbeats 1000000 in
theorem OB {k:Nat} {s:aC} {ks:List (List UInt8)} (hs:s.sd) (R8:ks.length≤1048576) (hk:4194304*4≤k):v7 k s ks=some (nx ks s):=by
 unfold v7
 have h:=JN (S:=List cb) (R:=Option Bool) (x:=s.aT) (f:=VB ks) (B:=4194304*3) (l:=fun k m i=>iter (ts:=pn) (R:=Bool) k (kZ (some true)) ks s.aT (s.aT.length:Int) i m) (J:=fun _=>some true) (fun _ _=>True)
  (fun k m _=>by simp only [iter,kZ,cm,cond_false]<;>rfl)
  (fun k i m hi hb _=>⟨by
   obtain ⟨f1,-,-,-,f5,-,-,-,-,f10,f11⟩:=hs.2.2 _ (dk hi)
   have hk1:4194304≤k:=by omega
   have hk2:8388608≤k:=by omega
   simp only [iter,kZ,share,cf hi,bI hi,cond_true,bL,bJ hi,bO hs.2.1 hi,gg hk1 f1,Option.bind_some]
   have em:(nV (fun p:cb=>seq s.aT[i].Name p.Key) m (⟨s.aT[i].Name,(aQ .i64 (l8 (fun p:cb=>seq s.aT[i].Name p.Key) (fun p:cb=>p.Mb) (0:Int) m) (1:Int))⟩:cb))=see s.aT[i].Name m:=rfl
   have es:l8 (fun p:cb=>seq s.aT[i].Name p.Key) (fun p:cb=>p.Mb) (0:Int) (see s.aT[i].Name m)=g9 s.aT[i].Name (see s.aT[i].Name m):=rfl
   simp only [em,es]
   unfold VB o9
   generalize see s.aT[i].Name m=m'
   generalize iter (ts:=pn) (R:=Bool) k (kZ (some true))=rec
   generalize hF:s.aT[i]=f at *
   cases cD f.Name with
   | false=>rfl
   | true=>
    simp only [Bool.not_true,cond_false,Bool.true_and,ui,tq,tp,tn,tl,Option.bind_some]
    cases bN 1 (g9 f.Name m') with
    | true=>simp [fin]<;>rfl
    | false=>
     simp only [cond_false,Bool.not_false,Bool.and_true]
     cases k1:bM f.Kind 1 with
     | true=>
      simp only [cond_true,Option.bind_some,xe,kB,kC,sI hk1 f5.1 f10,gg hk1 f11,bare,sound,k1]
      cases bM (f.Words.length:Int) 0<;>cases seq f.To []<;>cases bM f.cu 0<;>cases b_ 0 f.bP<;>cases b_ f.bP f.bW<;>cases b_ f.bW 1000000<;>cases seq f.aY []<;>cases cD f.aY<;>cases seq f.Default []<;>cases fits f f.Default<;>rfl
     | false=>
      simp only [cond_false]
      cases k2:bM f.Kind 2 with
      | true=>
       simp only [cond_true,Option.bind_some,xe,mo,mq,sI hk1 f5.1 f10,sJ hk2 f5,bare,sound,k1,k2]
       cases bM f.bP 0<;>cases bM f.bW 0<;>cases seq f.To []<;>cases bM f.cu 0<;>cases seq f.aY []<;>cases b_ 1 (f.Words.length:Int)<;>cases b_ (f.Words.length:Int) 6<;>cases pv f.Words<;>cases seq f.Default []<;>cases fits f f.Default<;>rfl
      | false=>
       simp only [cond_false]
       cases k3:bM f.Kind 3 with
       | true=>
        simp only [cond_true,Option.bind_some,xe,mm,mn,sI hk1 f5.1 f10,bare,sound,k1,k2,k3]
        cases bM (f.Words.length:Int) 0<;>cases seq f.To []<;>cases bM f.cu 0<;>cases seq f.aY []<;>cases b_ 1 f.bP<;>cases b_ f.bP f.bW<;>cases b_ f.bW 40<;>cases seq f.Default []<;>cases fits f f.Default<;>rfl
       | false=>
        simp only [cond_false]
        cases k4:bM f.Kind 4 with
        | true=>
         simp only [cond_true,Option.bind_some,xe,mj,R7 hk1 R8 k4,sI hk1 f5.1 f10]
         generalize sound ks f=sd
         simp only [bare,k1,k2,k3,k4]
         cases bM f.bP 0<;>cases bM f.bW 0<;>cases bM (f.Words.length:Int) 0<;>cases seq f.aY []<;>cases sd<;>cases seq f.Default []<;>cases fits f f.Default<;>rfl
        | false=>rw [acC k1 k2 k3 k4];rfl,fun _ _=>trivial⟩) k [] (by have:=hs.2.1;omega) trivial
 simp only [share,nx,cJ]
 cases b_ (s.aT.length:Int) 6 with
 | false=>rfl
 | true=>exact h.trans (by rw [ab4 ks s.aT 0 [] [] fun n=>rfl];rfl)
theorem xC {k:Nat} {xs:List aC} (hx:jt aC.sd xs) (hk:4194304*5≤k):dX k xs=some (eh xs):=by
 unfold dX
 have YF:jt dc (kinds xs):=⟨by simp only [kinds,List.length_map];exact hx.1,fun y hy=>by
  obtain ⟨s,h1,rfl⟩:=List.mem_map.1 hy
  exact (hx.2 s h1).1⟩
 have h1:=fun (J:List aC→List (List UInt8)→Option Bool)=>fL (S:=List (List UInt8)) (x:=xs) (f:=fun (q:List (List UInt8)) s=>q++[s.Kind]) (B:=0) (l:=fun k q i=>iter (ts:=pS) (R:=Bool) k (iD J) xs xs (xs.length:Int) i q) (J:=fun q=>J xs q) (fun i q=>q.length=i)
  (fun k q _=>by simp only [iter,iD,cm,cond_false]<;>rfl)
  (fun k i q hi _ hq=>⟨by
   have:=hx.1
   simp only [iter,iD,cf hi,bI hi,cond_true,bL,bJ hi,bO hx.1 hi]
   rw [sH (by simp;omega) (by omega)];rfl,by simp [hq]⟩) k [] (by have:=hx.1;omega) rfl
 have e:∀ (y:List aC) (q:List (List UInt8)),y.foldl (fun (q:List (List UInt8)) s=>q++[s.Kind]) q=q++kinds y:=by
  intro y
  induction y with
  | nil=>intro q;simp [kinds]
  | cons a r ih=>intro q;rw [List.foldl_cons,ih];simp [kinds]
 have h2:=gf (x:=xs) (p:=nx (kinds xs)) (B:=4194304*4) (l:=fun k i=>iter (ts:=oz) (R:=Bool) k (gX (some true)) xs (xs.length:Int) i (kinds xs)) (E:=some true) (O:=some false)
  (fun k=>by simp only [iter,gX,cm,cond_false]<;>rfl)
  (fun k i hi hb=>by
   simp only [iter,gX,cf hi,bI hi,cond_true,bL,bJ hi,bO hx.1 hi,OB (hx.2 _ (dk hi)) YF.1 hb,Option.bind_some]
   cases nx (kinds xs) xs[i]<;>rfl) k (by have:=hx.1;omega)
 simp only [share,eh,cJ]
 cases hl:b_ (xs.length:Int) 6 with
 | false=>rfl
 | true=>
  rw [show Ej (0:Int) (xs.length:Int) 16=true by
   simp only [Ej,Bool.and_eq_true,decide_eq_true_eq];have:=hx.1;omega]
  simp only [Bool.not_true,cond_false,bL]
  refine (h1 _).trans ?_
  rw [e,List.nil_append]
  simp only [sJ (show 8388608≤k by omega) YF,Option.bind_some,h2]
  cases pv (kinds xs)<;>cases xs.all (nx (kinds xs))<;>rfl
end Go.Proofs.YtljfmaaadnoggaaGreatDoor.Pu
