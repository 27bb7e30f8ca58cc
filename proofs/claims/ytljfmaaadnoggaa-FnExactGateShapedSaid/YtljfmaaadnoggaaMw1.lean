/- Plain words and laws. No condition. -/
import Derived.Test.YtljfmaaadnoggaaPvMk
set_option linter.unusedSimpArgs false
set_option linter.unusedVariables false
namespace Go.Proofs.Ytljfmaaadnoggaa.Pu
open Go Go.RowKit Go.Proofs.Ytljfmaaadnoggaa.Abs Go.Proofs.Ytljfmaaadnoggaa.Fn
theorem Yd.ofE {α:Type} {F:Nat→Option α} {a:α} (B:Nat) (h:∀ k,B≤k→F k=some a):Yd F a:=⟨B,h⟩
theorem req_t {R:Type} (x:Option R):req true x=x:=rfl
theorem sumC_l {α β γ:Type} (x:α) (f:α→γ) (g:β→γ):sumC (.inl x) f g=f x:=rfl
theorem sumC_r {α β γ:Type} (x:β) (f:α→γ) (g:β→γ):sumC (.inr x) f g=g x:=rfl
theorem share_e {α β:Type} (x:α) (f:α→β):share x f=f x:=rfl
theorem ilt_n {i n:Nat} (h:i < n):ilt (i:Int) (n:Int)=true:=ilt_t (by omega)
theorem ilt_e {n:Nat}:ilt (n:Int) (n:Int)=false:=ilt_f (by omega)
theorem inb_n {i n:Nat} (h:i < n):inb (i:Int) n=true:=inb_t (by omega) (by omega)
theorem iadd_n {i n:Nat} (hn:n≤1048576) (h:i < n):iadd .i64 (i:Int) 1=((i+1:Nat):Int):=by
 rw [iaddn (by omega) (by omega)];norm_cast
theorem isub_n {i:Nat} (h0:0 < i) (hi:i≤1048576):isub .i64 (i:Int) 1=((i-1:Nat):Int):=by
 rw [isubn (by omega) (by omega)];omega
theorem ilt_0 {i:Nat} (h:0 < i):ilt 0 (i:Int)=true:=ilt_t (by omega)
theorem ilt_00:ilt 0 ((0:Nat):Int)=false:=rfl
theorem max_sd {n:Nat} (h:n≤1048576):n≤maxLen:=by have:=max_eq;omega
theorem mem_i {α:Type} {x:List α} {i:Nat} (h:i < x.length):x[i]∈x:=List.getElem_mem h
theorem nth_i {α:Type} {d:α} {x:List α} {i:Nat} (hi:i < x.length):nth d x (i:Int)=x[i]:=nth_get hi
section
variable {α R S:Type} {x:List α} {B:Nat}
theorem loop_any {p:α→Bool} {l:Nat→Int→R} {E O:R} (he:∀ k,l (k+1) (x.length:Int)=E)
  (h:∀ k i (hi:i < x.length),B≤k→l (k+1) (i:Int)=cond (p x[i]) O (l k ((i+1:Nat):Int))) (k:Nat) (hk:B+x.length+1≤k):l k 0=cond (x.any p) O E:=by
 have go:∀ m i k,i+m=x.length→B+m+1≤k→l k (i:Int)=cond ((x.drop i).any p) O E:=by
  intro m
  induction m with
  | zero=>
   intro i k h1 h2
   obtain rfl:i=x.length:=by omega
   obtain ⟨k,rfl⟩:∃ j,k=j+1:=⟨k-1,by omega⟩
   simp [he]
  | succ m ih=>
   intro i k h1 h2
   obtain ⟨k,rfl⟩:∃ j,k=j+1:=⟨k-1,by omega⟩
   have hi:i < x.length:=by omega
   rw [h k i hi (by omega),List.drop_eq_getElem_cons hi,List.any_cons]
   cases p x[i] with
   | true=>rfl
   | false=>simpa using ih (i+1) k (by omega) (by omega)
 have:=go x.length 0 k (by omega) (by omega)
 simpa using this
theorem loop_all {p:α→Bool} {l:Nat→Int→R} {E O:R} (he:∀ k,l (k+1) (x.length:Int)=E)
  (h:∀ k i (hi:i < x.length),B≤k→l (k+1) (i:Int)=cond (p x[i]) (l k ((i+1:Nat):Int)) O) (k:Nat) (hk:B+x.length+1≤k):l k 0=cond (x.all p) E O:=by
 have:=loop_any (p:=fun a=>!p a) (l:=l) (E:=E) (O:=O) he (fun k i hi hb=>by rw [h k i hi hb];cases p x[i]<;>rfl) k hk
 rw [this]
 have e:(x.any fun a=>!p a)=!x.all p:=by simp [List.any_eq_not_all_not]
 rw [e];cases x.all p<;>rfl
def scan (f:S→Nat→α→S ⊕ R):List α→Nat→S→S ⊕ R
 | [],_,s=>.inl s
 | a::r,i,s=>match f s i a with
  | .inl s'=>scan f r (i+1) s'
  | .inr y=>.inr y
def fin (J:S→R):S ⊕ R→R
 | .inl s=>J s
 | .inr y=>y
theorem loop_scan_from {l:Nat→S→Int→R} {J:S→R} {f:S→Nat→α→S ⊕ R} (I:Nat→S→Prop)
  (he:∀ k s,I x.length s→l (k+1) s (x.length:Int)=J s)
  (h:∀ k i s (hi:i < x.length),B≤k→I i s→l (k+1) s (i:Int)=fin (fun s'=>l k s' ((i+1:Nat):Int)) (f s i x[i])∧∀ s',f s i x[i]=.inl s'→I (i+1) s'):
  ∀ m i k s,i+m=x.length→B+m+1≤k→I i s→l k s (i:Int)=fin J (scan f (x.drop i) i s):=by
 intro m
 induction m with
 | zero=>
  intro i k s h1 h2 h3
  obtain rfl:i=x.length:=by omega
  obtain ⟨k,rfl⟩:∃ j,k=j+1:=⟨k-1,by omega⟩
  rw [he k s h3,List.drop_length];rfl
 | succ m ih=>
  intro i k s h1 h2 h3
  obtain ⟨k,rfl⟩:∃ j,k=j+1:=⟨k-1,by omega⟩
  have hi:i < x.length:=by omega
  obtain ⟨h4,h5⟩:=h k i s hi (by omega) h3
  rw [h4,List.drop_eq_getElem_cons hi]
  simp only [scan]
  cases hf:f s i x[i] with
  | inl s'=>exact ih (i+1) k s' (by omega) (by omega) (h5 s' hf)
  | inr y=>rfl
theorem loop_scan {l:Nat→S→Int→R} {J:S→R} {f:S→Nat→α→S ⊕ R} (I:Nat→S→Prop)
  (he:∀ k s,I x.length s→l (k+1) s (x.length:Int)=J s)
  (h:∀ k i s (hi:i < x.length),B≤k→I i s→l (k+1) s (i:Int)=fin (fun s'=>l k s' ((i+1:Nat):Int)) (f s i x[i])∧∀ s',f s i x[i]=.inl s'→I (i+1) s')
  (k:Nat) (s:S) (hk:B+x.length+1≤k) (h0:I 0 s):l k s 0=fin J (scan f x 0 s):=by
 have:=loop_scan_from I he h x.length 0 k s (by omega) hk h0
 simpa using this
theorem loop_fold {l:Nat→S→Int→R} {J:S→R} {f:S→α→S} (I:Nat→S→Prop)
  (he:∀ k s,I x.length s→l (k+1) s (x.length:Int)=J s)
  (h:∀ k i s (hi:i < x.length),B≤k→I i s→l (k+1) s (i:Int)=l k (f s x[i]) ((i+1:Nat):Int)∧I (i+1) (f s x[i]))
  (k:Nat) (s:S) (hk:B+x.length+1≤k) (h0:I 0 s):l k s 0=J (x.foldl f s):=by
 have:=loop_scan (f:=fun s _ a=>.inl (f s a)) I he (fun k i s hi hb h0=>⟨(h k i s hi hb h0).1,fun s' e=>by cases e;exact (h k i s hi hb h0).2⟩) k s hk h0
 rw [this]
 have e:∀ (y:List α) i s,scan (R:=R) (fun s _ a=>.inl (f s a)) y i s=.inl (y.foldl f s):=by
  intro y
  induction y with
  | nil=>intro i s;rfl
  | cons a r ih=>intro i s;simp only [scan,List.foldl_cons];exact ih _ _
 rw [e];rfl
end
def bt (c:UInt8):Int:=(c.toNat:Int)
theorem bt_range (c:UInt8):0≤bt c∧bt c≤255:=by
 have:=c.toNat_lt
 simp only [bt];omega
theorem sidx_get {s:List UInt8} {i:Nat} (h:i < s.length):sidx s (i:Int)=bt s[i]:=by
 simp only [sidx,Int.toNat_natCast,List.getD,bt]
 rw [List.getElem?_eq_getElem h];rfl
theorem appB_t {n b:Nat} (hn:n≤16777216) (hb:b≤100000):appB n b=true:=by
 have h1:n*b≤16777216*100000:=Nat.mul_le_mul hn hb
 simp only [appB,Bool.and_eq_true,decide_eq_true_eq]
 omega
theorem wrap_u8 {n:Int} (h0:0≤n) (h1:n≤255):IntKind.u8.wrap n=n:=by
 simp only [IntKind.wrap,IntKind.bits,IntKind.signed,Bool.false_and]
 split
 ·rename_i h;simp at h
 ·omega
theorem in_e (k:Nat) (a b c:Int):spec_l1In k a b c=some (ile b a&&ile a c):=by
 unfold spec_l1In
 cases ile b a<;>rfl
def nb (c:UInt8):Bool:=(ile 97 (bt c)&&ile (bt c) 122)||((ile 48 (bt c)&&ile (bt c) 57)||ieq (bt c) 45)
theorem l1Byte_e (k:Nat) (c:UInt8):spec_l1Byte k (bt c)=some (nb c):=by
 unfold spec_l1Byte nb
 cases ile 97 (bt c)<;>cases ile (bt c) 122<;>cases ile 48 (bt c)<;>cases ile (bt c) 57<;>cases ieq (bt c) 45<;>rfl
theorem nameByte_e (k:Nat) (c:UInt8):impl_nameByte k (bt c)=some (nb c):=by
 unfold impl_nameByte nb
 cases ile 97 (bt c)<;>cases ile (bt c) 122<;>cases ile 48 (bt c)<;>cases ile (bt c) 57<;>cases ieq (bt c) 45<;>rfl
def nameOk (s:List UInt8):Bool:=ile 1 (s.length:Int)&&(ile (s.length:Int) 16&&s.all nb)
theorem l1NameOk_e {k:Nat} {s:List UInt8} (hk:4194304≤k) (hs:sdStr s):spec_l1NameOk k s=some (nameOk s):=by
 unfold spec_l1NameOk nameOk
 have h:=loop_all (x:=s) (p:=nb) (B:=0) (l:=fun k i=>iter (ts:=spec_l1NameOk_L4_ts) (R:=Bool) k (spec_l1NameOk_L4 (some true)) s i) (E:=some true) (O:=some false)
  (fun k=>by simp only [iter,spec_l1NameOk_L4,ilt_e,cond_false]<;>rfl)
  (fun k i hi _=>by
   simp only [iter,spec_l1NameOk_L4,ilt_n hi,inb_n hi,cond_true,req_t,sidx_get hi,l1Byte_e,Option.bind_some,iadd_n hs hi]
   cases nb s[i]<;>rfl) k (by have:s.length≤1048576:=hs;omega)
 simp only [share,in_e,Option.bind_some,h]
 cases ile 1 (s.length:Int)<;>cases ile (s.length:Int) 16<;>cases s.all nb<;>rfl
theorem nameBytes_e {k:Nat} {s:List UInt8} (hk:4194304≤k) (hs:sdStr s):impl_nameBytes k s=some (s.all nb):=by
 unfold impl_nameBytes
 have h:=loop_all (x:=s) (p:=nb) (B:=0) (l:=fun k i=>iter (ts:=impl_nameBytes_L2_ts) (R:=Bool) k (impl_nameBytes_L2 (some true)) s (s.length:Int) i) (E:=some true) (O:=some false)
  (fun k=>by simp only [iter,impl_nameBytes_L2,ilt_e,cond_false]<;>rfl)
  (fun k i hi _=>by
   simp only [iter,impl_nameBytes_L2,ilt_n hi,inb_n hi,cond_true,req_t,sidx_get hi,nameByte_e,Option.bind_some,iadd_n hs hi]
   cases nb s[i]<;>rfl) k (by have:s.length≤1048576:=hs;omega)
 simp only [share]
 exact h.trans (by cases s.all nb<;>rfl)
theorem isName_e {k:Nat} {s:List UInt8} (hk:4194304≤k) (hs:sdStr s):impl_isName k s=some (nameOk s):=by
 unfold impl_isName nameOk
 simp only [nameBytes_e hk hs,Option.bind_some]
 cases ile 1 (s.length:Int)<;>cases ile (s.length:Int) 16<;>rfl
theorem not_ilt (a b:Int):(!ilt a b)=ile b a:=by
 by_cases h:a < b
 ·rw [ilt_t h,ile_f (by omega)];rfl
 ·rw [ilt_f h,ile_t (by omega)];rfl
theorem ilt_not (a b:Int):ilt a b=!ile b a:=by rw [← not_ilt];simp
theorem nameOk_ne {s:List UInt8} (h:seq s []=true):nameOk s=false:=by
 have e:s=[]:=by simpa [seq] using h
 subst e;rfl
section
variable {α R S:Type} {x:List α} {B:Nat}
def chain (p:Option α→α→Bool):Option α→List α→Bool
 | _,[]=>true
 | q,a::r=>p q a&&chain p (some a) r
def ahead (x:List α) (i:Nat):Option α:=if i=0 then none else x[i-1]?
theorem ahead_0:ahead x 0=none:=rfl
theorem ahead_s {i:Nat} (h:0 < i) (hi:i < x.length):ahead x i=some (x[i-1]'(by omega)):=by
 unfold ahead
 rw [if_neg (by omega)]
 exact List.getElem?_eq_getElem _
theorem loop_chain {p:Option α→α→Bool} {l:Nat→Int→R} {E O:R} (he:∀ k,l (k+1) (x.length:Int)=E)
  (h:∀ k i (hi:i < x.length),B≤k→l (k+1) (i:Int)=cond (p (ahead x i) x[i]) (l k ((i+1:Nat):Int)) O) (k:Nat) (hk:B+x.length+1≤k):l k 0=cond (chain p none x) E O:=by
 have go:∀ m i k,i+m=x.length→B+m+1≤k→l k (i:Int)=cond (chain p (ahead x i) (x.drop i)) E O:=by
  intro m
  induction m with
  | zero=>
   intro i k h1 h2
   obtain rfl:i=x.length:=by omega
   obtain ⟨k,rfl⟩:∃ j,k=j+1:=⟨k-1,by omega⟩
   simp [he,chain]
  | succ m ih=>
   intro i k h1 h2
   obtain ⟨k,rfl⟩:∃ j,k=j+1:=⟨k-1,by omega⟩
   have hi:i < x.length:=by omega
   rw [h k i hi (by omega),List.drop_eq_getElem_cons hi]
   have e:some x[i]=ahead x (i+1):=by simp [ahead]
   simp only [chain,e]
   cases p (ahead x i) x[i] with
   | true=>simpa using ih (i+1) k (by omega) (by omega)
   | false=>rfl
 have:=go x.length 0 k (by omega) (by omega)
 simpa [ahead] using this
theorem chain_and {p q:Option α→α→Bool}:∀ (y:List α) (o:Option α),chain (fun o a=>p o a&&q o a) o y=(chain p o y&&chain q o y)
 | [],_=>rfl
 | a::r,o=>by
  simp only [chain,chain_and r]
  cases p o a<;>cases q o a<;>cases chain p (some a) r<;>rfl
theorem chain_all {p:α→Bool}:∀ (y:List α) (o:Option α),chain (fun _ a=>p a) o y=y.all p
 | [],_=>rfl
 | a::r,o=>by simp only [chain,chain_all r,List.all_cons]
theorem chain_map {β:Type} {f:α→β} {p:Option β→β→Bool}:∀ (y:List α) (o:Option α),chain p (o.map f) (y.map f)=chain (fun o a=>p (o.map f) (f a)) o y
 | [],_=>rfl
 | a::r,o=>by simp only [List.map_cons,chain];rw [← chain_map r];rfl
theorem mput_nil {p:α→Bool} {y:α}:mput p [] y=[y]:=rfl
theorem mput_cons {p:α→Bool} {a y:α} {l:List α}:mput p (a::l) y=cond (p a) (y::l) (a::mput p l y):=by
 unfold mput
 rw [List.findIdx?_cons]
 cases p a with
 | true=>rfl
 | false=>cases h:l.findIdx? p<;>simp [h]
theorem mget_cons {β:Type} {p:α→Bool} {f:α→β} {d:β} {a:α} {l:List α}:mget p f d (a::l)=cond (p a) (f a) (mget p f d l):=by
 unfold mget
 rw [List.find?_cons]
 cases p a<;>rfl
theorem mhas_cons {p:α→Bool} {a:α} {l:List α}:mhas p (a::l)=(p a||mhas p l):=by
 unfold mhas
 rw [List.findIdx?_cons]
 cases p a<;>cases l.findIdx? p<;>rfl
theorem seq_iff {a b:List UInt8}:seq a b=true↔a=b:=by simp [seq]
theorem seq_comm (a b:List UInt8):seq a b=seq b a:=by
 rw [Bool.eq_iff_iff,seq_iff,seq_iff];exact eq_comm
theorem mget_mput {β:Type} {key:α→List UInt8} {f:α→β} {d:β} {y:α} {n:List UInt8}:∀ {l:List α},mget (fun p=>seq n (key p)) f d (mput (fun p=>seq (key y) (key p)) l y)=cond (seq n (key y)) (f y) (mget (fun p=>seq n (key p)) f d l)
 | []=>by rw [mput_nil,mget_cons]
 | a::l=>by
  rw [mput_cons]
  cases h:seq (key y) (key a) with
  | true=>
   have e:=seq_iff.1 h
   rw [cond_true,mget_cons,mget_cons,← e]
   cases seq n (key y)<;>rfl
  | false=>
   rw [cond_false,mget_cons,mget_cons,mget_mput]
   cases h1:seq n (key a) with
   | false=>rfl
   | true=>
    have e:=seq_iff.1 h1
    subst e
    rw [show seq (key a) (key y)=false by rw [seq_comm];exact h];rfl
theorem mhas_mput {key:α→List UInt8} {y:α} {n:List UInt8}:∀ {l:List α},mhas (fun p=>seq n (key p)) (mput (fun p=>seq (key y) (key p)) l y)=(seq n (key y)||mhas (fun p=>seq n (key p)) l)
 | []=>by rw [mput_nil,mhas_cons]
 | a::l=>by
  rw [mput_cons]
  cases h:seq (key y) (key a) with
  | true=>
   have e:=seq_iff.1 h
   rw [cond_true,mhas_cons,mhas_cons,← e]
   cases seq n (key y)<;>rfl
  | false=>
   rw [cond_false,mhas_cons,mhas_cons,mhas_mput]
   cases seq n (key a)<;>cases seq n (key y)<;>rfl
end
def ascP (q:Option (List UInt8)) (s:List UInt8):Bool:=nameOk s&&(match q with | none=>true | some p=>slt p s)
def ascend (xs:List (List UInt8)):Bool:=chain ascP none xs
abbrev Nm:=List UInt8
section
variable {α:Type} {x:List α} {B:Nat} {p:α→Bool}
def gidx (p:α→Bool):List α→Nat→Int
 | [],_=>-1
 | a::r,i=>cond (p a) (i:Int) (gidx p r (i+1))
theorem loop_gidx {l:Nat→Int→Option Int} (he:∀ k,l (k+1) (x.length:Int)=some (-1))
  (h:∀ k i (hi:i < x.length),l (k+1) (i:Int)=cond (p x[i]) (some (i:Int)) (l k ((i+1:Nat):Int))) (k:Nat) (hk:x.length+1≤k):l k 0=some (gidx p x 0):=by
 have go:∀ m i k,i+m=x.length→m+1≤k→l k (i:Int)=some (gidx p (x.drop i) i):=by
  intro m
  induction m with
  | zero=>
   intro i k h1 h2
   obtain rfl:i=x.length:=by omega
   obtain ⟨k,rfl⟩:∃ j,k=j+1:=⟨k-1,by omega⟩
   simp [he,gidx]
  | succ m ih=>
   intro i k h1 h2
   obtain ⟨k,rfl⟩:∃ j,k=j+1:=⟨k-1,by omega⟩
   have hi:i < x.length:=by omega
   rw [h k i hi,List.drop_eq_getElem_cons hi]
   simp only [gidx]
   cases p x[i] with
   | true=>rfl
   | false=>exact ih (i+1) k (by omega) (by omega)
 have:=go x.length 0 k (by omega) (by omega)
 simpa using this
theorem gidx_from:∀ (y:List α) (i:Nat),(gidx p y i=-1∧y.find? p=none)∨∃ j,∃ h:j < y.length,gidx p y i=((i+j:Nat):Int)∧y.find? p=some y[j]∧p y[j]=true
 | [],i=>.inl ⟨rfl,rfl⟩
 | a::r,i=>by
  simp only [gidx,List.find?_cons]
  cases ha:p a with
  | true=>exact .inr ⟨0,by simp,by simp,by simp,ha⟩
  | false=>
   rcases gidx_from r (i+1) with ⟨h1,h2⟩ | ⟨j,hj,h1,h2,h3⟩
   ·exact .inl ⟨h1,h2⟩
   ·exact .inr ⟨j+1,by simpa using hj,by simp only [cond_false,h1];congr 1;omega,by simpa using h2,by simpa using h3⟩
theorem gidx_find (p:α→Bool) (x:List α):(gidx p x 0=-1∧x.find? p=none)∨∃ j,∃ h:j < x.length,gidx p x 0=(j:Int)∧x.find? p=some x[j]∧p x[j]=true:=by
 rcases gidx_from (p:=p) x 0 with h | ⟨j,hj,h1,h2⟩
 ·exact .inl h
 ·exact .inr ⟨j,hj,by simpa using h1,h2⟩
end
section
variable {α R:Type} {x:List α} {B:Nat}
theorem loop_find {p:α→Bool} {l:Nat→Int→R} {E:R} {O:α→R} (he:∀ k,l (k+1) (x.length:Int)=E)
  (h:∀ k i (hi:i < x.length),B≤k→l (k+1) (i:Int)=cond (p x[i]) (O x[i]) (l k ((i+1:Nat):Int))) (k:Nat) (hk:B+x.length+1≤k):l k 0=(match x.find? p with | some a=>O a | none=>E):=by
 have go:∀ m i k,i+m=x.length→B+m+1≤k→l k (i:Int)=(match (x.drop i).find? p with | some a=>O a | none=>E):=by
  intro m
  induction m with
  | zero=>
   intro i k h1 h2
   obtain rfl:i=x.length:=by omega
   obtain ⟨k,rfl⟩:∃ j,k=j+1:=⟨k-1,by omega⟩
   simp [he]
  | succ m ih=>
   intro i k h1 h2
   obtain ⟨k,rfl⟩:∃ j,k=j+1:=⟨k-1,by omega⟩
   have hi:i < x.length:=by omega
   rw [h k i hi (by omega),List.drop_eq_getElem_cons hi,List.find?_cons]
   cases p x[i] with
   | true=>rfl
   | false=>exact ih (i+1) k (by omega) (by omega)
 have:=go x.length 0 k (by omega) (by omega)
 simpa using this
end
section
variable {α β R:Type} {x:List α} {B:Nat}
def first (g:Nat→α→Option β):List α→Nat→Option β
 | [],_=>none
 | a::r,i=>match g i a with
  | some c=>some c
  | none=>first g r (i+1)
theorem loop_first {g:Nat→α→Option β} {l:Nat→Int→R} {E:R} {O:β→R} (he:∀ k,l (k+1) (x.length:Int)=E)
  (h:∀ k i (hi:i < x.length),B≤k→l (k+1) (i:Int)=(match g i x[i] with | some c=>O c | none=>l k ((i+1:Nat):Int))) (k:Nat) (hk:B+x.length+1≤k):l k 0=(match first g x 0 with | some c=>O c | none=>E):=by
 have go:∀ m i k,i+m=x.length→B+m+1≤k→l k (i:Int)=(match first g (x.drop i) i with | some c=>O c | none=>E):=by
  intro m
  induction m with
  | zero=>
   intro i k h1 h2
   obtain rfl:i=x.length:=by omega
   obtain ⟨k,rfl⟩:∃ j,k=j+1:=⟨k-1,by omega⟩
   simp [he,first]
  | succ m ih=>
   intro i k h1 h2
   obtain ⟨k,rfl⟩:∃ j,k=j+1:=⟨k-1,by omega⟩
   have hi:i < x.length:=by omega
   rw [h k i hi (by omega),List.drop_eq_getElem_cons hi]
   simp only [first]
   cases g i x[i] with
   | some c=>rfl
   | none=>exact ih (i+1) k (by omega) (by omega)
 have:=go x.length 0 k (by omega) (by omega)
 simpa using this
theorem first_ext {g g':Nat→α→Option β}:∀ (y:List α) (i:Nat),(∀ j a,y[j]?=some a→g (i+j) a=g' (i+j) a)→first g y i=first g' y i
 | [],_,_=>rfl
 | a::r,i,h=>by
  simp only [first]
  have h0:=h 0 a rfl
  rw [Nat.add_zero] at h0
  have hr:=first_ext (g:=g) (g':=g') r (i+1) fun j b hb=>by have:=h (j+1) b (by simpa using hb);rwa [show i+(j+1)=i+1+j by omega] at this
  rw [h0,hr]
end
theorem slt_irr:∀ a:List UInt8,slt a a=false
 | []=>rfl
 | a::r=>by
  have:=slt_irr r
  simp only [slt,Op.bytesLess] at *
  simp [this]
theorem slt_tr:∀ {a b c:List UInt8},slt a b=true→slt b c=true→slt a c=true
 | [],b,c,h1,h2=>by
  cases c with
  | nil=>cases b<;>simp [slt,Op.bytesLess] at h2
  | cons=>rfl
 | a::r,b,c,h1,h2=>by
  cases b with
  | nil=>simp [slt,Op.bytesLess] at h1
  | cons b s=>
   cases c with
   | nil=>simp [slt,Op.bytesLess] at h2
   | cons c t=>
    have ih:=@slt_tr r s t
    simp only [slt,Op.bytesLess,Bool.or_eq_true,Bool.and_eq_true,decide_eq_true_eq,beq_iff_eq] at *
    rcases h1 with h1 | ⟨rfl,h1⟩
    ·rcases h2 with h2 | ⟨rfl,h2⟩
     ·exact .inl (UInt8.lt_trans h1 h2)
     ·exact .inl h1
    ·rcases h2 with h2 | ⟨rfl,h2⟩
     ·exact .inl h2
     ·exact .inr ⟨rfl,ih h1 h2⟩
theorem chain_asc:∀ {xs:List (List UInt8)} {q:Option (List UInt8)},chain ascP q xs=true→xs.Nodup∧∀ p,q=some p→∀ y,y∈xs→slt p y=true
 | [],_,_=>⟨List.nodup_nil,fun _ _ _ h=>by cases h⟩
 | a::r,q,h=>by
  simp only [chain,ascP,Bool.and_eq_true] at h
  obtain ⟨⟨-,h1⟩,h2⟩:=h
  obtain ⟨h3,h4⟩:=chain_asc h2
  refine ⟨List.nodup_cons.2 ⟨fun hm=>?_,h3⟩,fun p hp y hy=>?_⟩
  ·have:=h4 a rfl a hm
   rw [slt_irr] at this;cases this
  ·subst hp
   rcases List.mem_cons.1 hy with e | e
   ·exact e▸h1
   ·exact slt_tr h1 (h4 a rfl y e)
theorem asc_nodup {xs:List (List UInt8)} (h:ascend xs=true):xs.Nodup:=(chain_asc h).1
theorem ile_le {a b:Int} (h:ile a b=true):a≤b:=by simpa [ile] using h
def val:List UInt8→Int→Option Int
 | [],a=>some a
 | c::r,a=>if 48≤bt c∧bt c≤57 then val r (a*10+(bt c-48)) else none
theorem val_nonneg:∀ {s:List UInt8} {a v:Int},0≤a→val s a=some v→0≤v
 | [],a,v,h,e=>by simp only [val] at e;cases e;exact h
 | c::r,a,v,h,e=>by
  simp only [val] at e
  split at e
  ·exact val_nonneg (by omega) e
  ·cases e
theorem val_lt:∀ {s:List UInt8} {a v:Int},0≤a→val s a=some v→v < (a+1)*10 ^ s.length
 | [],a,v,h,e=>by simp only [val] at e;cases e;simp only [List.length_nil,Int.pow_zero];omega
 | c::r,a,v,h,e=>by
  simp only [val] at e
  split at e
  ·have:=val_lt (by omega) e
   refine Int.lt_of_lt_of_le this ?_
   rw [List.length_cons,Int.pow_succ,Int.mul_comm (10 ^ r.length) 10,← Int.mul_assoc]
   exact Int.mul_le_mul_of_nonneg_right (by omega) (Int.pow_nonneg (by omega))
  ·cases e
def num (s:List UInt8):Option Int:=if 1≤s.length∧s.length≤7∧(1 < s.length→bt (s.getD 0 0)≠48) then val s 0 else none
theorem num_range {s:List UInt8} {v:Int} (h:num s=some v):0≤v∧v < 10000000:=by
 unfold num at h
 split at h
 ·rename_i hc
  have h1:=val_nonneg (by omega) h
  have h2:=val_lt (by omega) h
  have h3:(10:Int) ^ s.length≤10 ^ 7:=by
   have:(10:Nat) ^ s.length≤10 ^ 7:=Nat.pow_le_pow_right (by omega) hc.2.1
   exact_mod_cast this
  omega
 ·cases h
def vOr {R:Type} (J:Int→Option R) (r:R):Option Int→Option R
 | some v=>J v
 | none=>some r
theorem val_step {s:List UInt8} {i:Nat} {a:Int} (hi:i < s.length):val (s.drop i) a=if 48≤bt s[i]∧bt s[i]≤57 then val (s.drop (i+1)) (a*10+(bt s[i]-48)) else none:=by
 rw [List.drop_eq_getElem_cons hi];rfl
theorem l1Number_l {s:List UInt8} {J:Int→Option Int}:∀ (m i k:Nat) (a:Int),i+m=s.length→m < k→s.length≤7→0≤a→a < 10 ^ i→
  iter (ts:=spec_l1Number_L5_ts) (R:=Int) k (spec_l1Number_L5 J) s a (i:Int)=vOr J (-1) (val (s.drop i) a)
 | _,_,0,_,_,h,_,_,_=>by omega
 | 0,i,k+1,a,h,_,h7,h0,ha=>by
  obtain rfl:i=s.length:=by omega
  simp only [iter,spec_l1Number_L5,ilt_e,cond_false,List.drop_length,val,vOr]<;>rfl
 | m+1,i,k+1,a,h,hk,h7,h0,ha=>by
  have hi:i < s.length:=by omega
  have hr:=bt_range s[i]
  simp only [iter,spec_l1Number_L5,share,ilt_n hi,inb_n hi,cond_true,req_t,sidx_get hi]
  rw [val_step hi]
  by_cases c1:bt s[i] < 48
  ·rw [ilt_t c1,if_neg (by omega)];rfl
  ·by_cases c2:57 < bt s[i]
   ·rw [ilt_f c1,ilt_t c2,if_neg (by omega)];rfl
   ·rw [ilt_f c1,ilt_f c2,if_pos (by omega)]
    have hpow:(10:Int) ^ i≤10 ^ 7:=by
     have:(10:Nat) ^ i≤10 ^ 7:=Nat.pow_le_pow_right (by omega) (by omega)
     exact_mod_cast this
    have e1:imul .i64 a 10=a*10:=wrap_id (by omega) (by omega)
    have e2:iconv .i64 (bt s[i])=bt s[i]:=wrap_id (by omega) (by omega)
    simp only [cond_false,e1,e2]
    rw [iaddn (by omega) (by omega),isubn (by omega) (by omega),iadd_n (n:=s.length) (by omega) hi,show a*10+bt s[i]-48=a*10+(bt s[i]-48) by omega]
    exact l1Number_l m (i+1) k _ (by omega) (by omega) h7 (by omega) (by rw [Int.pow_succ];omega)
theorem decimal_l {s:List UInt8} {J:Int→Option (Int×Bool)}:∀ (m i k:Nat) (a:Int),i+m=s.length→m < k→s.length≤7→0≤a→a < 10 ^ i→
  iter (ts:=impl_decimal_L5_ts) (R:=Int×Bool) k (impl_decimal_L5 J) s a (s.length:Int) (i:Int)=vOr J (0,false) (val (s.drop i) a)
 | _,_,0,_,_,h,_,_,_=>by omega
 | 0,i,k+1,a,h,_,h7,h0,ha=>by
  obtain rfl:i=s.length:=by omega
  simp only [iter,impl_decimal_L5,ilt_e,cond_false,List.drop_length,val,vOr]<;>rfl
 | m+1,i,k+1,a,h,hk,h7,h0,ha=>by
  have hi:i < s.length:=by omega
  have hr:=bt_range s[i]
  simp only [iter,impl_decimal_L5,share,ilt_n hi,inb_n hi,cond_true,req_t,sidx_get hi]
  rw [val_step hi]
  by_cases c1:bt s[i] < 48
  ·rw [ilt_t c1,if_neg (by omega)];rfl
  ·by_cases c2:57 < bt s[i]
   ·rw [ilt_f c1,ilt_t c2,if_neg (by omega)];rfl
   ·rw [ilt_f c1,ilt_f c2,if_pos (by omega)]
    have hpow:(10:Int) ^ i≤10 ^ 7:=by
     have:(10:Nat) ^ i≤10 ^ 7:=Nat.pow_le_pow_right (by omega) (by omega)
     exact_mod_cast this
    have e1:imul .i64 a 10=a*10:=wrap_id (by omega) (by omega)
    have e0:isub .u8 (bt s[i]) 48=bt s[i]-48:=wrap_u8 (by omega) (by omega)
    have e2:iconv .i64 (bt s[i]-48)=bt s[i]-48:=wrap_id (by omega) (by omega)
    simp only [cond_false,e0,e1,e2]
    rw [iaddn (by omega) (by omega),iadd_n (n:=s.length) (by omega) hi]
    exact decimal_l m (i+1) k _ (by omega) (by omega) h7 (by omega) (by rw [Int.pow_succ];omega)
theorem l1Number_e {k:Nat} (s:List UInt8) (hk:4194304≤k):spec_l1Number k s=some ((num s).getD (-1)):=by
 unfold spec_l1Number
 simp only [share,in_e,Option.bind_some]
 by_cases h1:1≤s.length
 ·by_cases h7:s.length≤7
  ·have loop:=l1Number_l (s:=s) (J:=fun v=>some v) s.length 0 k 0 (by omega) (by omega) h7 (by omega) (by decide)
   rw [List.drop_zero,Int.natCast_zero] at loop
   rw [ile_t (by omega),ile_t (by omega)]
   simp only [Bool.and_true,Bool.not_true,cond_false,loop]
   by_cases h2:1 < s.length
   ·rw [ilt_t (by omega),inb_t (by omega) (by omega)]
    have e0:sidx s 0=bt (s.getD 0 0):=rfl
    simp only [cond_true,req_t,e0]
    by_cases h3:bt (s.getD 0 0)=48
    ·rw [h3,num,if_neg (fun h=>h.2.2 h2 h3)];rfl
    ·rw [show ieq (bt (s.getD 0 0)) 48=false by simpa [ieq] using h3,num,if_pos ⟨h1,h7,fun _=>h3⟩]
     cases val s 0<;>rfl
   ·rw [ilt_f (by omega),num,if_pos ⟨h1,h7,fun h=>absurd h h2⟩]
    cases val s 0<;>rfl
  ·rw [ile_t (by omega),ile_f (by omega),num,if_neg (by omega)];rfl
 ·rw [ile_f (by omega),num,if_neg (by omega)];rfl
theorem decimal_e {k:Nat} (s:List UInt8) (hk:4194304≤k):impl_decimal k s=some (match num s with | some v=>(v,true) | none=>(0,false)):=by
 unfold impl_decimal
 simp only [share]
 by_cases h1:s.length < 1
 ·rw [ilt_t (by omega),num,if_neg (by omega)];rfl
 ·rw [ilt_f (by omega)]
  by_cases h7:7 < s.length
  ·rw [ilt_t (by omega),num,if_neg (by omega)];rfl
  ·have loop:=decimal_l (s:=s) (J:=fun v=>some (v,true)) s.length 0 k 0 (by omega) (by omega) (by omega) (by omega) (by decide)
   rw [List.drop_zero,Int.natCast_zero] at loop
   have e0:sidx s 0=bt (s.getD 0 0):=rfl
   rw [ilt_f (by omega),inb_t (by omega) (by omega)]
   simp only [cond_false,req_t,e0,loop]
   by_cases h3:bt (s.getD 0 0)=48
   ·rw [show ieq (bt (s.getD 0 0)) 48=true by simpa [ieq] using h3]
    by_cases h2:1 < s.length
    ·rw [ilt_t (by omega),num,if_neg (fun h=>h.2.2 h2 h3)];rfl
    ·rw [ilt_f (by omega),num,if_pos ⟨by omega,by omega,fun h=>absurd h h2⟩]
     cases val s 0<;>rfl
   ·rw [show ieq (bt (s.getD 0 0)) 48=false by simpa [ieq] using h3,num,if_pos ⟨by omega,by omega,fun _=>h3⟩]
    cases val s 0<;>rfl
theorem l1Has_e {k:Nat} {xs:List (List UInt8)} {s:List UInt8} (hk:4194304≤k) (hx:xs.length≤1048576):spec_l1Has k xs s=some (xs.any fun y=>seq y s):=by
 unfold spec_l1Has
 have h:=loop_any (x:=xs) (p:=fun y=>seq y s) (B:=0) (l:=fun k i=>iter (ts:=spec_l1Has_L2_ts) (R:=Bool) k (spec_l1Has_L2 (some false)) xs s i) (E:=some false) (O:=some true)
  (fun k=>by simp only [iter,spec_l1Has_L2,ilt_e,cond_false]<;>rfl)
  (fun k i hi _=>by simp only [iter,spec_l1Has_L2,ilt_n hi,inb_n hi,cond_true,req_t,nth_i hi,iadd_n hx hi]<;>rfl) k (by omega)
 simp only [share]
 exact h.trans (by cases xs.any fun y=>seq y s<;>rfl)
theorem wordField_e {k:Nat} {f:GateField} {s:List UInt8} (hk:4194304≤k) (hx:f.Words.length≤1048576):impl_wordField_fits k ⟨f⟩ s=some (f.Words.any fun y=>seq y s):=by
 unfold impl_wordField_fits
 have h:=loop_any (x:=f.Words) (p:=fun y=>seq y s) (B:=0) (l:=fun k i=>iter (ts:=impl_wordField_fits_L2_ts) (R:=Bool) k (impl_wordField_fits_L2 (some false)) s f.Words (f.Words.length:Int) i) (E:=some false) (O:=some true)
  (fun k=>by simp only [iter,impl_wordField_fits_L2,ilt_e,cond_false]<;>rfl)
  (fun k i hi _=>by simp only [iter,impl_wordField_fits_L2,ilt_n hi,inb_n hi,cond_true,req_t,nth_i hi,iadd_n hx hi]<;>rfl) k (by omega)
 simp only [share]
 exact h.trans (by cases f.Words.any fun y=>seq y s<;>rfl)
def seen (c:UInt8):Bool:=ile 33 (bt c)&&ile (bt c) 126
def textOk (f:GateField) (s:List UInt8):Bool:=(ile f.Least (s.length:Int)&&ile (s.length:Int) f.Most)&&s.all seen
theorem textField_e {k:Nat} {f:GateField} {s:List UInt8} (hk:4194304≤k) (hs:sdStr s):impl_textField_fits k ⟨f⟩ s=some (textOk f s):=by
 unfold impl_textField_fits textOk
 have h:=loop_all (x:=s) (p:=seen) (B:=0) (l:=fun k i=>iter (ts:=impl_textField_fits_L4_ts) (R:=Bool) k (impl_textField_fits_L4 (some true)) s (s.length:Int) i) (E:=some true) (O:=some false)
  (fun k=>by simp only [iter,impl_textField_fits_L4,ilt_e,cond_false]<;>rfl)
  (fun k i hi _=>by
   simp only [iter,impl_textField_fits_L4,share,ilt_n hi,inb_n hi,cond_true,req_t,sidx_get hi,iadd_n hs hi,seen,ilt_not (bt s[i]),ilt_not 126]
   cases ile 33 (bt s[i])<;>cases ile (bt s[i]) 126<;>rfl) k (by have:s.length≤1048576:=hs;omega)
 simp only [share,h,ilt_not]
 cases ile f.Least (s.length:Int)<;>cases ile (s.length:Int) f.Most<;>cases s.all seen<;>rfl
def inR (f:GateField):Option Int→Bool
 | some v=>ile f.Least v&&ile v f.Most
 | none=>false
def fits (f:GateField) (s:List UInt8):Bool:=cond (ieq f.Kind 1) (inR f (num s)) (cond (ieq f.Kind 2) (!seq s []&&f.Words.any fun y=>seq y s) (cond (ieq f.Kind 3) (!seq s []&&textOk f s) (cond (ieq f.Kind 4) (nameOk s) false)))
theorem iconv_bt (c:UInt8):iconv .i64 (bt c)=bt c:=by have:=bt_range c;exact wrap_id (by omega) (by omega)
theorem specFits_e {k:Nat} {f:GateField} {s:List UInt8} (hk:4194304≤k) (hf:f.Words.length≤1048576) (hs:sdStr s):spec_GateFits k f s=some (fits f s):=by
 unfold spec_GateFits fits
 have h:=fun J=>loop_all (x:=s) (p:=seen) (B:=0) (l:=fun k i=>iter (ts:=spec_GateFits_L9_ts) (R:=Bool) k (spec_GateFits_L9 J) s f i) (E:=J s f) (O:=some false)
  (fun k=>by simp only [iter,spec_GateFits_L9,ilt_e,cond_false]<;>rfl)
  (fun k i hi _=>by
   simp only [iter,spec_GateFits_L9,ilt_n hi,inb_n hi,cond_true,req_t,sidx_get hi,iadd_n hs hi,in_e,Option.bind_some,iconv_bt,seen]
   cases ile 33 (bt s[i])<;>cases ile (bt s[i]) 126<;>rfl) k (by have:s.length≤1048576:=hs;omega)
 simp only [share,h,l1Number_e s hk,l1Has_e hk hf,l1NameOk_e hk hs,in_e,Option.bind_some]
 cases ieq f.Kind 1 with
 | true=>
  cases hn:num s with
  | none=>rfl
  | some v=>
   have:=num_range hn
   simp only [Option.getD_some,cond_true,ile_t this.1,inR]
 | false=>
  cases ieq f.Kind 2 with
  | true=>cases seq s []<;>rfl
  | false=>
   cases ieq f.Kind 3 with
   | true=>
    simp only [cond_true,cond_false,textOk]
    cases s.all seen<;>cases seq s []<;>cases ile f.Least (s.length:Int)<;>cases ile (s.length:Int) f.Most<;>rfl
   | false=>cases ieq f.Kind 4<;>rfl
theorem num_ne {s:List UInt8} (h:seq s []=true):num s=none:=by
 have e:s=[]:=by simpa [seq] using h
 subst e;rfl
theorem numberField_e {k:Nat} {f:GateField} {s:List UInt8} (hk:4194304≤k):impl_numberField_fits k ⟨f⟩ s=some (inR f (num s)):=by
 unfold impl_numberField_fits
 simp only [decimal_e s hk,Option.bind_some]
 cases num s with
 | none=>rfl
 | some v=>simp only [inR,cond_true];cases ile f.Least v<;>rfl
theorem implFits_e {k:Nat} {f:GateField} {s:List UInt8} (hk:4194304≤k) (hf:f.Words.length≤1048576) (hs:sdStr s):impl_GateFits k f s=some (fits f s):=by
 unfold impl_GateFits impl_sortOf impl_sortOf_1 impl_sortOf_2 impl_sortOf_3 impl_sortOf_4 fits impl_linkField_fits
 cases ieq f.Kind 1 with
 | true=>
  simp only [cond_true,Option.bind_some,sumC,numberField_e hk,wordField_e hk hf,textField_e hk hs,isName_e hk hs]
  cases he:seq s [] with
  | true=>rw [num_ne he];rfl
  | false=>rfl
 | false=>
  simp only [cond_false]
  cases ieq f.Kind 2 with
  | true=>simp only [cond_true,Option.bind_some,sumC,numberField_e hk,wordField_e hk hf,textField_e hk hs,isName_e hk hs];cases seq s []<;>rfl
  | false=>
   simp only [cond_false]
   cases ieq f.Kind 3 with
   | true=>simp only [cond_true,Option.bind_some,sumC,numberField_e hk,wordField_e hk hf,textField_e hk hs,isName_e hk hs];cases seq s []<;>rfl
   | false=>
    simp only [cond_false]
    cases ieq f.Kind 4 with
    | true=>
     simp only [cond_true,Option.bind_some,sumC,numberField_e hk,wordField_e hk hf,textField_e hk hs,isName_e hk hs]
     cases he:seq s [] with
     | true=>rw [nameOk_ne he];rfl
     | false=>rfl
    | false=>rfl
theorem l1Ascending_e {k:Nat} {xs:List (List UInt8)} (hk:8388608≤k) (hx:sdS sdStr xs):spec_l1Ascending k xs=some (ascend xs):=by
 unfold spec_l1Ascending
 have h:=loop_chain (x:=xs) (p:=ascP) (B:=4194304) (l:=fun k i=>iter (ts:=spec_l1Ascending_L2_ts) (R:=Bool) k (spec_l1Ascending_L2 (some true)) xs i) (E:=some true) (O:=some false)
  (fun k=>by simp only [iter,spec_l1Ascending_L2,ilt_e,cond_false]<;>rfl)
  (fun k i hi hb=>by
   simp only [iter,spec_l1Ascending_L2,share,ilt_n hi,inb_n hi,cond_true,req_t,nth_i hi,l1NameOk_e hb (hx.2 _ (mem_i hi)),Option.bind_some,iadd_n hx.1 hi]
   rcases Nat.eq_zero_or_pos i with rfl | h0
   ·simp only [ilt_00,ahead_0,ascP]
    cases nameOk xs[0]<;>rfl
   ·have hi':i-1 < xs.length:=by omega
    simp only [ilt_0 h0,isub_n h0 (by have:=hx.1;omega),inb_n hi',cond_true,req_t,nth_i hi',ahead_s h0 hi,ascP]
    cases nameOk xs[i]<;>cases slt xs[i-1] xs[i]<;>rfl) k (by have:=hx.1;omega)
 simp only [share]
 exact h.trans (by unfold ascend;cases chain ascP none xs<;>rfl)
theorem ascendingNames_e {k:Nat} {xs:List (List UInt8)} (hk:8388608≤k) (hx:sdS sdStr xs):impl_ascendingNames k xs=some (ascend xs):=by
 unfold impl_ascendingNames
 have h:=loop_chain (x:=xs) (p:=ascP) (B:=4194304) (l:=fun k i=>iter (ts:=impl_ascendingNames_L2_ts) (R:=Bool) k (impl_ascendingNames_L2 (some true)) xs xs (xs.length:Int) i) (E:=some true) (O:=some false)
  (fun k=>by simp only [iter,impl_ascendingNames_L2,ilt_e,cond_false]<;>rfl)
  (fun k i hi hb=>by
   simp only [iter,impl_ascendingNames_L2,share,ilt_n hi,inb_n hi,cond_true,req_t,nth_i hi,isName_e hb (hx.2 _ (mem_i hi)),Option.bind_some,iadd_n hx.1 hi]
   rcases Nat.eq_zero_or_pos i with rfl | h0
   ·simp only [ilt_00,ahead_0,ascP]
    cases nameOk xs[0]<;>rfl
   ·have hi':i-1 < xs.length:=by omega
    simp only [ilt_0 h0,isub_n h0 (by have:=hx.1;omega),inb_n hi',cond_true,req_t,nth_i hi',ahead_s h0 hi,ascP]
    cases nameOk xs[i]<;>cases slt xs[i-1] xs[i]<;>rfl) k (by have:=hx.1;omega)
 simp only [share]
 exact h.trans (by unfold ascend;cases chain ascP none xs<;>rfl)
def fidx (to:List UInt8):List GateShape→Nat→Int
 | [],_=>-1
 | s::r,i=>cond (seq s.Kind to) (i:Int) (fidx to r (i+1))
theorem fidx_pos (to:List UInt8):∀ (xs:List GateShape) (i:Nat),ile 0 (fidx to xs i)=xs.any fun s=>seq s.Kind to
 | [],i=>rfl
 | s::r,i=>by
  simp only [fidx,List.any_cons]
  cases seq s.Kind to with
  | true=>exact ile_t (by simp)
  | false=>exact fidx_pos to r (i+1)
theorem l1Shape_l {xs:List GateShape} {to:List UInt8} (hx:xs.length≤1048576):∀ m i k:Nat,i+m=xs.length→m < k→
  iter (ts:=spec_l1Shape_L2_ts) (R:=Int) k (spec_l1Shape_L2 (some (-1))) xs to (i:Int)=some (fidx to (xs.drop i) i)
 | _,_,0,_,h=>by omega
 | 0,i,k+1,h,_=>by
  obtain rfl:i=xs.length:=by omega
  simp only [iter,spec_l1Shape_L2,ilt_e,cond_false,List.drop_length,fidx]<;>rfl
 | m+1,i,k+1,h,hk=>by
  have hi:i < xs.length:=by omega
  have ih:=l1Shape_l (to:=to) hx m (i+1) k (by omega) (by omega)
  simp only [iter,spec_l1Shape_L2,ilt_n hi,inb_n hi,cond_true,req_t,nth_i hi,iadd_n hx hi]
  rw [List.drop_eq_getElem_cons hi]
  simp only [fidx]
  cases seq xs[i].Kind to with
  | true=>rfl
  | false=>exact ih
theorem l1Shape_e {k:Nat} {xs:List GateShape} {to:List UInt8} (hk:4194304≤k) (hx:xs.length≤1048576):spec_l1Shape k xs to=some (fidx to xs 0):=by
 unfold spec_l1Shape
 simp only [share]
 exact l1Shape_l hx xs.length 0 k (by omega) (by omega)
def kinds (xs:List GateShape):List (List UInt8):=xs.map (·.Kind)
theorem kinds_any (xs:List GateShape) (to:List UInt8):(kinds xs).any (fun k=>seq k to)=xs.any fun s=>seq s.Kind to:=by simp only [kinds,List.any_map];rfl
def bare (f:GateField):Bool:=
 cond (ieq f.Kind 1) (ieq (f.Words.length:Int) 0&&(seq f.To []&&ieq f.Role 0))
 (cond (ieq f.Kind 2) (ieq f.Least 0&&(ieq f.Most 0&&(seq f.To []&&(ieq f.Role 0&&seq f.Weighs []))))
 (cond (ieq f.Kind 3) (ieq (f.Words.length:Int) 0&&(seq f.To []&&(ieq f.Role 0&&seq f.Weighs [])))
 (cond (ieq f.Kind 4) (ieq f.Least 0&&(ieq f.Most 0&&(ieq (f.Words.length:Int) 0&&seq f.Weighs []))) false)))
def sound (ks:List (List UInt8)) (f:GateField):Bool:=
 cond (ieq f.Kind 1) (ile 0 f.Least&&(ile f.Least f.Most&&(ile f.Most 1000000&&(seq f.Weighs []||nameOk f.Weighs))))
 (cond (ieq f.Kind 2) (ile 1 (f.Words.length:Int)&&(ile (f.Words.length:Int) 6&&ascend f.Words))
 (cond (ieq f.Kind 3) (ile 1 f.Least&&(ile f.Least f.Most&&ile f.Most 40))
 (cond (ieq f.Kind 4) (ks.any (fun k=>seq k f.To)&&(ile 1 f.Role&&(ile f.Role 3&&(seq f.Default []&&(!ieq f.Role 2||!f.Must))))) false)))
def fieldOk (ks:List (List UInt8)) (f:GateField):Bool:=nameOk f.Name&&(bare f&&((seq f.Default []||fits f f.Default)&&sound ks f))
theorem ieq_f {m n c:Int} (h:ieq m n=true) (hn:n≠c):ieq m c=false:=by
 simp only [ieq,beq_iff_eq] at h ⊢
 rw [beq_eq_false_iff_ne,h];exact hn
theorem bare_k {f:GateField} (h1:ieq f.Kind 1=false) (h2:ieq f.Kind 2=false) (h3:ieq f.Kind 3=false) (h4:ieq f.Kind 4=false):bare f=false:=by
 simp only [bare,h1,h2,h3,h4,cond_false]
theorem ilt_len0 (n:Nat):ilt 0 (n:Int)=!ieq (n:Int) 0:=by
 by_cases h:n=0
 ·subst h;rfl
 ·rw [ilt_t (by omega),show ieq (n:Int) 0=false by simp [ieq];omega];rfl
theorem l1Bare_e (k:Nat) (f:GateField) (ks:List (List UInt8)):∃ b,spec_l1Bare k f=some b∧(b&&sound ks f)=(bare f&&sound ks f):=by
 unfold spec_l1Bare
 simp only [share,ilt_len0]
 have key:∀ b:Bool,(sound ks f=true→b=bare f)→(b&&sound ks f)=(bare f&&sound ks f):=fun b h=>by
  cases hs:sound ks f with
  | true=>rw [h hs]
  | false=>simp
 cases h1:ieq f.Kind 1 with
 | true=>
  have e2:=ieq_f h1 (c:=2) (by decide)
  have e4:=ieq_f h1 (c:=4) (by decide)
  refine ⟨bare f,?_,rfl⟩
  simp only [e2,e4,bare,h1]
  cases ieq (f.Words.length:Int) 0<;>cases seq f.To []<;>rfl
 | false=>
  cases h2:ieq f.Kind 2 with
  | true=>
   have e3:=ieq_f h2 (c:=3) (by decide)
   have e4:=ieq_f h2 (c:=4) (by decide)
   refine ⟨bare f,?_,rfl⟩
   simp only [e3,e4,bare,h1,h2]
   cases ieq f.Least 0<;>cases ieq f.Most 0<;>cases seq f.Weighs []<;>cases seq f.To []<;>cases ieq f.Role 0<;>rfl
  | false=>
   cases h3:ieq f.Kind 3 with
   | true=>
    have e4:=ieq_f h3 (c:=4) (by decide)
    refine ⟨bare f,?_,rfl⟩
    simp only [e4,bare,h1,h2,h3]
    cases seq f.Weighs []<;>cases ieq (f.Words.length:Int) 0<;>cases seq f.To []<;>cases ieq f.Role 0<;>rfl
   | false=>
    cases h4:ieq f.Kind 4 with
    | true=>
     refine ⟨bare f,?_,rfl⟩
     simp only [bare,h1,h2,h3,h4]
     cases ieq f.Least 0<;>cases ieq f.Most 0<;>cases seq f.Weighs []<;>cases ieq (f.Words.length:Int) 0<;>rfl
    | false=>
     have hs:sound ks f=false:=by simp only [sound,h1,h2,h3,h4,cond_false]
     rw [hs]
     cases ieq f.Least 0<;>cases ieq f.Most 0<;>cases seq f.Weighs []<;>cases ieq (f.Words.length:Int) 0<;>cases seq f.To []<;>cases ieq f.Role 0<;>exact ⟨_,rfl,by simp⟩
theorem l1FieldOk_e {k:Nat} {xs:List GateShape} {f:GateField} (hk:8388608≤k) (hx:xs.length≤1048576) (hf:f.sd):spec_l1FieldOk k xs f=some (fieldOk (kinds xs) f):=by
 obtain ⟨f1,-,-,-,f5,-,-,-,-,f10,f11⟩:=hf
 obtain ⟨b,hb1,hb2⟩:=l1Bare_e k f (kinds xs)
 unfold spec_l1FieldOk fieldOk
 simp only [share,in_e,l1NameOk_e (show 4194304≤k by omega) f1,l1NameOk_e (show 4194304≤k by omega) f11,hb1,specFits_e (show 4194304≤k by omega) f5.1 f10,l1Ascending_e hk f5,l1Shape_e (show 4194304≤k by omega) hx,Option.bind_some,fidx_pos,← kinds_any]
 have e:(bare f&&((seq f.Default []||fits f f.Default)&&sound (kinds xs) f))=(b&&((seq f.Default []||fits f f.Default)&&sound (kinds xs) f)):=by
  cases hs:sound (kinds xs) f with
  | false=>simp
  | true=>rw [hs] at hb2;simp only [Bool.and_true] at hb2 ⊢;rw [hb2]
 rw [e]
 have fin:∀ c:Bool,cond c (some false) (cond (ieq f.Kind 1) (cond (ile 0 f.Least) (cond (ile f.Least f.Most) (cond (ile f.Most 1000000) (cond (seq f.Weighs []) (some true) (some (nameOk f.Weighs))) (some false)) (some false)) (some false))
   (cond (ieq f.Kind 2) (cond (ile 1 (f.Words.length:Int)&&ile (f.Words.length:Int) 6) (some (ascend f.Words)) (some false))
   (cond (ieq f.Kind 3) (cond (ile 1 f.Least) (cond (ile f.Least f.Most) (some (ile f.Most 40)) (some false)) (some false))
   (cond (ieq f.Kind 4) (cond ((kinds xs).any fun k=>seq k f.To) (cond (ile 1 f.Role&&ile f.Role 3) (cond (seq f.Default []) (cond (!ieq f.Role 2) (some true) (some (!f.Must))) (some false)) (some false)) (some false)) (some false)))))=some (!c&&sound (kinds xs) f):=by
  intro c
  cases c with
  | true=>rfl
  | false=>
   simp only [cond_false,Bool.not_false,Bool.true_and,sound]
   cases ieq f.Kind 1 with
   | true=>cases ile 0 f.Least<;>cases ile f.Least f.Most<;>cases ile f.Most 1000000<;>cases seq f.Weighs []<;>rfl
   | false=>cases ieq f.Kind 2 with
    | true=>cases ile 1 (f.Words.length:Int)<;>cases ile (f.Words.length:Int) 6<;>rfl
    | false=>cases ieq f.Kind 3 with
     | true=>cases ile 1 f.Least<;>cases ile f.Least f.Most<;>rfl
     | false=>cases ieq f.Kind 4 with
      | true=>cases (kinds xs).any fun k=>seq k f.To<;>cases ile 1 f.Role<;>cases ile f.Role 3<;>cases seq f.Default []<;>cases ieq f.Role 2<;>rfl
      | false=>rfl
 simp only [fin]
 cases nameOk f.Name<;>cases b<;>cases seq f.Default []<;>cases fits f f.Default<;>rfl
end Go.Proofs.Ytljfmaaadnoggaa.Pu
