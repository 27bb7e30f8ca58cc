/- A region whose order Go leaves open, at whose end an entry of a map is laid and stored (m[k] += v). No condition. -/
import Derived.Test.YtjkbbdldmdajkaaGreatDoorVX
import Derived.Test.YtjkbbdldmdajkaaGreatDoorWE
set_option linter.unusedSimpArgs false
set_option linter.unusedVariables false
namespace Go.Proofs.YtjkbbdldmdajkaaGreatDoor.c_
open Go Go.RowKit
variable {w w' xk:World} {F F' Bs O O' v8:Nat→Prop} {μ bC lG:Nat→Nat} {K K' EF:Nat→Prop} {ft bZ:Nat→Nat→Prop} {P:Program} {R:Type}
def ahg (o:Oper):Bool:=match o.op with
 | .lookup _ _ _ _=>true
 | _=>false
def V3 (o:Oper):Bool:=match o.guard with
 | none=>true
 | some _=>false
def lkE (E:Env) (T:bP) (id:Nat) (t0:TypeId) (o:Oper):Option cN:=match o.op with
 | .lookup t x k false=>match T.val x,T.val k,E.P.underlying t with
  | .mp b9,.agg cs,some (.map kt et)=>match Nat.beq b9 id&&Nat.beq t t0,zvT E.P et,YI E kt cs with
   | true,some (.d yz),some ⟨j,kk⟩=>match Up E.P kt j,aT T.H id with
    | true,some (.dmap i l)=>match JG i with
     | 0=>none
     | n+1=>match decEq ((AE i).take (n+1)) (AE j),(AE i).drop (n+1) with
      | .isTrue _,[v]=>match uc v (.d yz) with
       | some ⟨v',z⟩=>match decEq v' v with
        | .isTrue e=>some ⟨v,nN (gF i j (n+1) kk) (BH i (n+1) v) (e▸z) l⟩
        | .isFalse _=>none
       | none=>none
      | _,_=>none
    | _,_=>none
   | _,_,_=>none
  | _,_,_=>none
 | _=>none
def OI (E:Env) (bN:List CT) (ops:List Oper) (B:Array Nat) (p id:Nat) (t0:TypeId):List Oper→Nat→bP→(bP→Option R)→Option R
 | [],_,T,κ=>κ T
 | o::rest,i,T,κ=>match pA T o.dst&&V3 o with
  | true=>match ahg o with
   | true=>match lkE E (T.mask ops B [(p+2,[id])] i) id t0 o with
    | some y=>OI E bN ops B p id t0 rest (i+1) (T.put o.dst (.d y)) κ
    | none=>none
   | false=>Jx E bN ops B [(p,[id]),(p+2,[id])] o i T true (fun T=>OI E bN ops B p id t0 rest (i+1) T κ)
  | false=>none
def afX (E:Env) (ops:List Oper) (B:Array Nat) (p id:Nat) (t:TypeId) (m k m3 x:Operand) (d1 d2:Nat) (T:bP) (κ:bP→Option R):Option R:=
 match (T.mask ops B [(p+2,[id])] p).val m,(T.mask ops B [(p+2,[id])] p).val k,E.P.underlying t with
 | .mp b9,.agg cs,some (.map kt et)=>match Nat.beq b9 id,zvT E.P et,YI E kt cs with
  | true,some (.d Y8),some ⟨j,kk⟩=>match Up E.P kt j,aT T.H id,bP.val ⟨T.nt,T.N,(d1,.top)::(d2,.top)::T.tm,T.H⟩ m3 with
   | true,some (.dmap i l),.mp tu=>match Nat.beq tu id,JG i with
    | true,n+1=>match decEq ((AE i).take (n+1)) (AE j),(AE i).drop (n+1) with
     | .isTrue _,[v]=>match uc v (.d Y8),uc v (bP.val ⟨T.nt,T.N,(d1,.top)::(d2,.top)::T.tm,T.H⟩ x) with
      | some yz,some y0=>match Mg (.st i) (get j kk++[yz]),Mg (.st i) (get j kk++[y0]) with
       | some _,some y=>κ ⟨T.nt,T.N,(d1,.top)::(d2,.top)::T.tm,cD T.H [(id,some (.dmap i (pB (gF i j (n+1) kk) l y)))]⟩
       | _,_=>none
      | _,_=>none
     | _,_=>none
    | _,_=>none
   | _,_,_=>none
  | _,_,_=>none
 | _,_,_=>none
def Oz:List Oper→Option (List Oper×Oper×Oper×Oper)
 | []=>none
 | [_]=>none
 | [_,_]=>none
 | o1::o2::o3::r=>match r with
  | []=>match o1.op with
   | .mapEntry _ _ _=>some ([],o1,o2,o3)
   | _=>none
  | _::_=>match Oz (o2::o3::r) with
   | some (pre,q)=>some (o1::pre,q)
   | none=>none
theorem QA:∀ {l pre:List Oper} {o1 o2 o3:Oper},Oz l=some (pre,o1,o2,o3)→l=pre++[o1,o2,o3]
 | [],_,_,_,_,h=>by cases h
 | [_],_,_,_,_,h=>by cases h
 | [_,_],_,_,_,_,h=>by cases h
 | a::b::c::r,pre,o1,o2,o3,h=>by
  simp only [Oz] at h;split at h
  ·split at h
   ·cases h;rfl
   ·cases h
  ·split at h
   ·rename_i ahG q hq;obtain ⟨q1,q2,q3⟩:=q;cases h;rw [QA hq];rfl
   ·cases h
def afY (o1 o2 o3:Oper):Option (TypeId×Operand×Operand×Nat×Nat×Operand×Operand):=match o1.op,o2.op,o3.op with
 | .mapEntry t m k,.extract (.tmp a) 1,.entryStore _ m3 (.tmp b) x=>match o1.dst,o2.dst,o3.dst with
  | some d1,some d2,none=>match V3 o1&&(V3 o2&&(V3 o3&&(Nat.beq a d1&&Nat.beq b d2))) with
   | true=>some (t,m,k,d1,d2,m3,x)
   | false=>none
  | _,_,_=>none
 | _,_,_=>none
def acR (B:Array Nat) (i:Nat):Nat→Bool
 | 0=>true
 | n+1=>bit B i n&&acR B i n
def Sb (E:Env) (bN:List CT) (ops:List Oper) (B:Array Nat) (id:Nat) (s:bP) (κ:bP→Option R):Option R:=
 match Oz ops with
 | some (pre,o1,o2,o3)=>match afY o1 o2 o3 with
  | some (t,m,k,d1,d2,m3,x)=>match (tl ops B [(pre.length+2,[id])]&&(bit B (pre.length+1) pre.length&&acR B (pre.length+2) (pre.length+2)))&&((!H7 B (pre.length+1) d1 0 ops&&!Nat.beq d1 d2)&&(d1.blt s.nt&&d2.blt s.nt)) with
   | true=>match E.P.underlying t with
    | some (.map _ et)=>match zvT E.P et with
     | some (.d _)=>OI E bN ops B pre.length id t pre 0 s fun T=>afX E ops B pre.length id t m k m3 x d1 d2 T κ
     | _=>none
    | _=>none
   | false=>none
  | none=>none
 | none=>none
theorem ee.more {s s':fT} {x:Operand} {a:AV} (h:ee s x a) (l:XZ s s'):ee s' x a:=fun hs=>h (hs.less l)
theorem W_ {B:Array Nat} {i:Nat}:∀ {n:Nat},acR B i n=true→∀ j,j < n→bit B i j=true
 | 0,_,j,hj=>by omega
 | n+1,h,j,hj=>by
  simp only [acR,Bool.and_eq_true] at h;by_cases e:j=n
  ·rw [e];exact h.1
  ·exact W_ h.2 j (by omega)
theorem Si {D:Nat→Bool} {H0:Hp} {id:Nat}:∀ {q:List RE},(∀ j e,eU q j=some e→e.up=[])→y9 D H0 q id=H0 id
 | [],_=>rfl
 | e::r,h=>by
  have h1:=h r.length e (by simp [eU]);simp only [y9,h1,y8,List.any_nil,Bool.and_false];exact Si fun j e' hj=>h j e' (by
   have:=jH hj;simp only [eU];rw [if_neg (by omega)];exact hj)
theorem acS {D D':Nat→Bool} {N0:Nat}:∀ {q:List RE},(∀ j,j < q.length→D j=D' j)→kD D N0 q=kD D' N0 q
 | [],_=>rfl
 | e::r,h=>by
  funext id;simp only [kD];rw [acS (D':=D') fun j hj=>h j (by simp;omega),h r.length (by simp)]
theorem xQ {e:RE} {r:List RE} {j:Nat} (h:j < r.length):eU (e::r) j=eU r j:=by
 simp only [eU];rw [if_neg (by omega)]
def Laid {i:Nat} (n:Nat) (y0:cN) (l lp:List (C i)):Prop:=lp=l∨∃ yz,lp=l++[yz]∧(get i yz).drop (n+1)=[y0]
theorem YJ {i n:Nat} {v:Ty} {z:v.dn} {p:C i→Bool} {l lp:List (C i)} (h:Laid n ⟨v,z⟩ l lp):nN p (BH i (n+1) v) z lp=nN p (BH i (n+1) v) z l:=by
 rcases h with rfl | ⟨yz,rfl,hz⟩
 ·rfl
 ·unfold nN;rw [List.find?_append];cases l.find? p with
  | some y=>rfl
  | none=>
   simp only [Option.none_or,List.find?_cons,List.find?_nil];cases p yz with
   | true=>simp [BH,hz]
   | false=>rfl
theorem acT {i n j:Nat} {kk:C j} {v:Ty} {z:v.dn} {l:List (C i)} (hdr:(AE i).drop (n+1)=[v]):
  il (Af false (cR ⟨v,z⟩) (l.map fun x=>dd (n+1) (get i x)) ((l.findIdx? (gF i j (n+1) kk)).map (0+·))) (cR ⟨v,nN (gF i j (n+1) kk) (BH i (n+1) v) z l⟩):=by
 simp only [nN];rcases BI (p:=gF i j (n+1) kk) (l:=l) with ⟨k1,k2⟩ | ⟨q,y,k1,k2,k3,k4⟩
 ·rw [k1,k2];exact (@il.refl _)
 ·rw [k1,k3];have hd0:((get i y).drop (n+1)).map (·.t)=[v]:=by
   rw [List.map_drop,q8,hdr]
  obtain ⟨b,hb⟩:∃ b:v.dn,(get i y).drop (n+1)=[⟨v,b⟩]:=by
   match hg:(get i y).drop (n+1),hd0 with
   | [⟨t',b⟩],h0=>
    simp only [List.map_cons,List.map_nil,List.cons.injEq,and_true] at h0;subst h0;exact ⟨b,rfl⟩
  have m4:((l.map fun x=>dd (n+1) (get i x)).getD (0+q) (.top,.top)).2=cR ⟨v,b⟩:=by
   simp [List.getD,k2,dd,hb]
  have m5:BH i (n+1) v y=b:=by
   unfold BH;rw [hb];simp
  simp only [Option.map_some,Af,m4,m5];exact (@il.refl _)
theorem aeK {E:Env} {T:bP} {id:Nat} {t0:TypeId} {o:Oper} {y:cN} {kt0 et0:TypeId} {Y8:cN} (ht0:E.P.underlying t0=some (.map kt0 et0)) (hz0:zvT E.P et0=some (.d Y8)) (h:lkE E T id t0 o=some y):
  (∀ c,o.op≠.defer c)∧(∃ rv,dr E.P o T.st ⟨rv,[],[]⟩∧il rv (cR y))∧∃ i l n,aT T.H id=some (.dmap i l)∧JG i=n+1∧∀ (lp:List (C i)) (jj st:Nat),Laid n Y8 l lp→
   ∃ rv,dr E.P o ⟨T.nt,T.N,T.st.tm,fun b9=>if b9=id then some (.HJ (lp.map fun x=>dd (JG i) (get i x)) jj st) else none⟩ ⟨rv,[],[]⟩∧il rv (cR y):=by
 unfold lkE at h;split at h
 ·rename_i t x k ho;split at h
  ·rename_i b9 cs kt et hx hk ht;split at h
   ·rename_i yz j kk bY hz hkg;simp only [Bool.and_eq_true] at bY;have e1:=Nat.eq_of_beq_eq_true bY.1;have e2:=Nat.eq_of_beq_eq_true bY.2;subst e1 e2;rw [ht] at ht0;cases ht0;rw [hz] at hz0;cases hz0;split at h
    ·rename_i i l Sz hl;split at h
     ·cases h
     ·rename_i n hn;split at h
      ·rename_i OJ v _ hdr;split at h
       ·rename_i v' z Xa;split at h
        ·rename_i e _;subst e;cases h;obtain ⟨fs,DL,_,_⟩:=JC Sz;have L7:=JD Sz kk;have hyz:Y8=⟨v',z⟩:=by
          simp only [uc] at Xa;split at Xa
          ·split at Xa
           ·exact Option.some.inj Xa
           ·cases Xa
          ·cases Xa
         have Tt:zvA E.P et0=some (cR ⟨v',z⟩):=by
          have:=(OK hz T.H T.N).1;simp only [TA.av] at this;rw [this,hyz]
         have key:∀ (s:fT) (lp:List (C i)) (B:jV),s.tm=T.st.tm→s.nt=T.nt→s.H b9=some B→eQ B (.map (lp.map fun x=>dd (n+1) (get i x)))→nN (gF i j (n+1) kk) (BH i (n+1) v') z lp=nN (gF i j (n+1) kk) (BH i (n+1) v') z l→
           ∃ rv,dr E.P o s ⟨rv,[],[]⟩∧il rv (cR ⟨v',nN (gF i j (n+1) kk) (BH i (n+1) v') z l⟩):=by
          intro s lp B htm hnt hB hBi hg;have hf:=BJ OJ Sz kk lp 0;refine ⟨Af false (cR ⟨v',z⟩) (lp.map fun x=>dd (n+1) (get i x)) ((lp.findIdx? (gF i j (n+1) kk)).map (0+·)),b6 fun {w F O μ K ft act} hs=>?_,?_⟩
          ·have IC:SR w F O μ K ⟨s.nt,s.N,s.tm,s.H.dh [(b9,some (.map (lp.map fun x=>dd (n+1) (get i x))))]⟩ ft act:=by
            refine ⟨hs.hr.imp fun Cv b' cl=>?_,hs.nt,hs.tm,hs.df⟩;simp only [Hp.dh] at cl;by_cases e:Cv=b9
            ·rw [if_pos e] at cl;cases cl;exact ⟨B,by rw [e];exact hB,hBi⟩
            ·rw [if_neg e] at cl;exact ⟨b',cl,eQ.refl _⟩
           have hvl:∀ (xx:Operand),∀ {w F O μ K ft act},SR w F O μ K ⟨s.nt,s.N,s.tm,s.H.dh [(b9,some (.map (lp.map fun x=>dd (n+1) (get i x))))]⟩ ft act→VR w F μ K ((T.val xx).av T.H) (act.eval xx):=by
            intro xx w F O μ K ft act hs;cases xx with
            | tmp q=>
             have:=hs.tm q;simp only [htm] at this;exact this
            | const u=>simp only [bP.val,NM];exact Kx u
            | func f=>simp only [bP.val,TA.av,dD];exact .fn _ [] [] [] [] rfl rfl (fun i h=>by cases h) (fun i h=>by cases h)
            | global g=>simp only [bP.val,TA.av];exact .top _
           refine QB (s:=⟨s.nt,s.N,s.tm,s.H.dh [(b9,some (.map (lp.map fun x=>dd (n+1) (get i x))))]⟩) ho (id:=b9) (ka:=cR ⟨.st j,kk⟩) (fun hs=>?_) ?_ (fun hs=>?_) ht DL L7.1 hf Tt IC
           ·have:=hvl x hs;rw [hx] at this;simpa only [TA.av] using this
           ·simp only [Hp.dh,if_true]
           ·have:=hvl k hs;rw [hk] at this;exact Ms hkg T.H this
          ·rw [← hg];exact acT hdr
         refine ⟨(fun c hc=>by rw [ho] at hc;cases hc),?_,i,l,n,hl,hn,fun lp jj st hlp=>?_⟩
         ·refine key T.st l _ rfl rfl (dF hl) ?_ rfl;simp only [aY.dC,hn];exact eQ.refl _
         ·refine key _ lp _ rfl rfl (by simp only [if_true];rfl) ?_ (YJ (hyz▸hlp));rw [hn];exact aa_ _ _ _
        ·cases h
       ·cases h
      ·cases h
    ·cases h
   ·cases h
  ·cases h
 ·cases h
theorem acU {p id i:Nat} (h:i < p):xp [(p,[id]),(p+2,[id])] i=[]∧xp [(p+2,[id])] i=[]:=by
 simp only [xp,cd (show ¬ i=p by omega),cd (show ¬ i=p+2 by omega),cd (show ¬ p=i by omega),cd (show ¬ p+2=i by omega),and_self]
structure aba (P:Program) (ops:List Oper) (B:Array Nat) (p id:Nat) (y0:cN) (s:bP) (q:List RE) (e:RE) (o:Oper):Prop where
 up:e.up=[]
 one:Qr P ops B [(p+2,[id])] s.st q e o
 two:inc B q.length p=true→∀ (i n:Nat) (l lp:List (C i)) (jj st:Nat),aT s.H id=some (.dmap i l)→JG i=n+1→Laid n y0 l lp→
  Qr P ops B [(p+2,[id])] ⟨s.nt,s.N,s.st.tm,s.st.H.dh [(id,some (.HJ (lp.map fun x=>dd (JG i) (get i x)) jj st))]⟩ q e o
theorem Uq {E:Env} {bN:List CT} {ops:List Oper} {B:Array Nat} {p id:Nat} {t0 kt0 et0:TypeId} {Y8:cN} {s:bP} {κ:bP→Option R} {z:R} (hE:xo E bN) (xm:∀ i o,ops[i]?=some o→B.getD i 0 < 2 ^ i) (ht0:E.P.underlying t0=some (.map kt0 et0)) (hz0:zvT E.P et0=some (.d Y8))
  (Rx:∀ i,i < p→inc B i (p+2)=false):∀ {l:List Oper} {T:bP} {q:List RE},
  OI E bN ops B p id t0 l q.length T κ=some z→Inv s ops [(p,[id]),(p+2,[id])] T q→(∀ j e,eU q j=some e→e.up=[])→T.H=s.H→(∀ i o,l[i]?=some o→ops[q.length+i]?=some o)→q.length+l.length=p→
  ∃ rs Tf,κ Tf=some z∧Inv s ops [(p,[id]),(p+2,[id])] Tf rs∧rs.length=p∧YC q rs∧(∀ j e,eU rs j=some e→e.up=[])∧Tf.H=s.H∧∀ i o,l[i]?=some o→∃ e q',eU rs (q.length+i)=some e∧q'.length=q.length+i∧YC q' rs∧aba E.P ops B p id Y8 s q' e o
 | [],T,q,h,hi,Vn,hTH,hl,hp=>by
  simp only [OI] at h;exact ⟨q,T,h,hi,by simpa using hp,⟨[],rfl⟩,Vn,hTH,fun i o ho=>by simp at ho⟩
 | o::rest,T,q,h,hi,Vn,hTH,hl,hp=>by
  simp only [OI] at h;have dQ:q.length < p:=by simp at hp;omega
  have ho0:=hl 0 o (by simp);have V4:∀ (D:Nat→Bool) (H0:Hp) (b9:Nat),y9 D H0 q b9=H0 b9:=fun D H0 b9=>Si Vn;have fin:∀ (e:RE) (T':bP),OI E bN ops B p id t0 rest (q.length+1) T' κ=some z→Inv s ops [(p,[id]),(p+2,[id])] T' (e::q)→T'.H=s.H→aba E.P ops B p id Y8 s q e o→
    ∃ rs Tf,κ Tf=some z∧Inv s ops [(p,[id]),(p+2,[id])] Tf rs∧rs.length=p∧YC q rs∧(∀ j e,eU rs j=some e→e.up=[])∧Tf.H=s.H∧∀ i o',(o::rest)[i]?=some o'→∃ e q',eU rs (q.length+i)=some e∧q'.length=q.length+i∧YC q' rs∧aba E.P ops B p id Y8 s q' e o':=by
   intro e T' h1 h2 h4 h3;obtain ⟨rs,Tf,k1,k2,k3,k4,k6,k9,k5⟩:=Uq hE xm ht0 hz0 Rx (q:=e::q) h1 h2 (fun j e' hj=>by
    simp only [eU] at hj;split at hj
    ·cases hj;exact h3.up
    ·exact Vn j e' hj) h4 (fun i o' JH=>by
    have:=hl (i+1) o' (by simpa using JH);rwa [show (e::q).length+i=q.length+(i+1) by simp;omega]) (by simp at hp ⊢;omega)
   obtain ⟨k7,k8⟩:=Uh k4;refine ⟨rs,Tf,k1,k2,k3,k7,k6,k9,fun i o' JH=>?_⟩;cases i with
   | zero=>
    simp only [List.getElem?_cons_zero,Option.some.injEq] at JH;subst JH;exact ⟨e,q,k8,rfl,k7,h3⟩
   | succ i=>
    obtain ⟨e',q',m1,m2,m3,m4⟩:=k5 i o' (by simpa using JH);have e1:(e::q).length+i=q.length+(i+1):=by simp;omega
    exact ⟨e',q',e1▸m1,e1▸m2,m3,m4⟩
  split at h
  ·rename_i hdg;simp only [Bool.and_eq_true] at hdg;obtain ⟨hd,hg⟩:=hdg;have hgn:o.guard=none:=by
    unfold V3 at hg;cases e:o.guard with
    | none=>rfl
    | some _=>rw [e] at hg;cases hg
   have hw:∀ {w F O μ K ft a} {M:fT},SR w F O μ K M ft a→Region.wanted o (yielded ⟨ops⟩ a.tmps)=true:=fun _=>by unfold Region.wanted;rw [hgn]
   split at h
   ·split at h
    ·rename_i y hy;obtain ⟨AF,⟨rv,k1,k2⟩,i,l,n,k3,k4,k5⟩:=aeK ht0 hz0 hy;have hi1:Inv s ops [(p+2,[id])] T q:=⟨hi.ok,hi.nt,hi.N,hi.tm,hi.H,fun j e hj=>by
      obtain ⟨o',m1,m2,_⟩:=hi.AB j e hj;exact ⟨o',m1,m2,fun b9 bY=>by rw [Vn j e hj] at bY;cases bY⟩⟩
     have mT:=hi1.WZ (B:=B) xm;have mH:=hi1.W0 (B:=B) xm;refine fin ⟨o.dst,cR y,[],T.N,0⟩ _ h ?_ (by rw [Jz];exact hTH) ?_
     ·refine ⟨Ay hi.ok (by simp only [TA.wf]),by rw [VW];exact hi.nt,⟨hi.N,by rw [aa1];rfl⟩,fun t=>?_,fun b9=>?_,fun j e hj=>?_⟩
      ·rw [VX,Jz];simp only [AA,Bool.true_and];cases OX o.dst t with
       | true=>simp only [TA.av]
       | false=>exact hi.tm t
      ·rw [Jz];simp only [y9,y8,List.any_nil,Bool.and_false];exact hi.H b9
      ·simp only [eU] at hj;split at hj
       ·rename_i e1;cases hj;exact ⟨o,e1▸ho0,rfl,fun b9 bY=>by cases bY⟩
       ·exact hi.AB j e hj
     ·have o_:(match o.dst with | some t=>t.blt s.st.nt | none=>true)=true:=by
       show pA ⟨s.nt,s.N,s.tm,s.H⟩ o.dst=true;cases hdd:o.dst with
       | none=>rfl
       | some t=>rw [hdd] at hd;simp only [pA] at hd ⊢;rw [← hi.nt];exact hd
      refine ⟨rfl,⟨rfl,o_,(fun b9 bY=>by cases bY),_,hi.nt,mT,mH,.inr ⟨fun hs=>hw hs,rv,[],k1,k2,fun b9 bY=>(by cases bY),fun b9 b' bY=>(by cases bY),AF⟩⟩,fun CJ i' n' l' lp jj st q1 q2 q3=>?_⟩;have PZ:aT (T.mask ops B [(p+2,[id])] q.length).H id=aT T.H id:=by
       rcases oC T.H id (L3 B q.length [(p+2,[id])]) with ⟨m1,x,_⟩ | ⟨_,m2⟩
       ·simp only [L3,Rx q.length dQ] at m1;cases m1
       ·exact m2
      rw [PZ,hTH,q1] at k3;cases k3;obtain ⟨rv2,m1,m2⟩:=k5 lp jj st (by rw [k4] at q2;cases q2;exact q3);refine ⟨rfl,o_,(fun b9 bY=>by cases bY),⟨T.nt,T.N,(T.mask ops B [(p+2,[id])] q.length).st.tm,fun b9=>if b9=id then some (.HJ (lp.map fun x=>dd (JG i) (get i x)) jj st) else none⟩,hi.nt,mT,fun b9=>?_,.inr ⟨fun hs=>hw hs,rv2,[],m1,m2,fun b9 bY=>(by cases bY),fun b9 b' bY=>(by cases bY),AF⟩⟩;by_cases e:b9=id
      ·refine .inr ⟨by simp only [Gs,Rx q.length dQ,Bool.and_false,Bool.or_false],?_⟩;rw [V4];simp only [e,if_true,Hp.dh]
      ·exact .inl (by simp only [if_neg e])
    ·cases h
   ·obtain ⟨e,T',h1,h2,h3,h4⟩:=Ui hE xm hi ho0 hd hw h;obtain ⟨t1,t2⟩:=acU (id:=id) dQ;have abb:e.up=[]:=by
     have:=h3.tou;rw [t1] at this;cases hu:e.up with
     | nil=>rfl
     | cons a b=>exact absurd (this a.1 (by rw [hu];simp)) (by simp)
    obtain ⟨M,c1,c2,c3,c4⟩:=h3.run;refine fin e T' h1 h2 ((h4 t1).trans hTH) ⟨abb,⟨h3.d,h3.ok,(fun b9 bY=>by rw [abb] at bY;cases bY),M,c1,c2,fun b9=>?_,?_⟩,fun CJ i n l' lp jj st q1 q2 q3=>⟨h3.d,h3.ok,(fun b9 bY=>by rw [abb] at bY;cases bY),M,c1,c2,fun b9=>?_,?_⟩⟩
    ·rcases c3 b9 with e1 | ⟨e1,e2⟩
     ·exact .inl e1
     ·refine .inr ⟨?_,e2⟩;simp only [Gs,Bool.or_eq_false_iff] at e1 ⊢;exact e1.2
    ·rcases c4 with ⟨a1,a2⟩ | ⟨a1,rv,L4,a2,a3,a4,a5,a6⟩
     ·exact .inl ⟨a1,a2⟩
     ·exact .inr ⟨a1,rv,L4,a2,a3,a4,(fun b9 b' bY=>by rw [abb] at bY;cases bY),a6⟩
    ·rcases c3 b9 with e1 | ⟨e1,e2⟩
     ·exact .inl e1
     ·simp only [Gs,Bool.or_eq_false_iff] at e1;have qL:b9≠id:=fun e=>by
       subst e;have:=e1.1;simp [CJ] at this
      refine .inr ⟨by simp only [Gs,Bool.or_eq_false_iff];exact e1.2,?_⟩;rw [e2,V4,V4];simp only [Hp.dh,if_neg qL]
    ·rcases c4 with ⟨a1,a2⟩ | ⟨a1,rv,L4,a2,a3,a4,a5,a6⟩
     ·exact .inl ⟨a1,a2⟩
     ·exact .inr ⟨a1,rv,L4,a2,a3,a4,(fun b9 b' bY=>by rw [abb] at bY;cases bY),a6⟩
  ·cases h
def afZ {α:Type} (l:List α) (y:α):Option Nat→List α
 | none=>l++[y]
 | some _=>l
theorem QC {B:Array Nat} {i t:Nat}:∀ {l:List Oper} {j:Nat},(∀ q,q < l.length→inc B i (j+q)=false)→H7 B i t j l=false
 | [],_,_=>rfl
 | o::r,j,h=>by
  simp only [H7,h 0 (by simp),Bool.and_false,Bool.false_or];have h0:=h 0 (by simp);rw [Nat.add_zero] at h0;rw [h0,Bool.and_false,Bool.false_or];exact QC fun q hq=>by
   have:=h (q+1) (by simp;omega);rwa [show j+1+q=j+(q+1) by omega]
theorem Xb {x y:cN} (ht:y.t=x.t) (h:YK x y=true):x=y:=by
 obtain ⟨t,a⟩:=x;obtain ⟨u,b⟩:=y;simp only at ht;subst ht;cases u with
 | int k=>
  have:a=b:=LawfulBEq.eq_of_beq (α:=Int) h;rw [this]
 | str=>
  have:a=b:=LawfulBEq.eq_of_beq (α:=List UInt8) h;rw [this]
 | _=>simp [YK] at h
theorem Xc:∀ {l m:List cN},m.map (·.t)=l.map (·.t)→Sj l m=true→l=m
 | [],[],_,_=>rfl
 | [],_::_,h,_=>by simp at h
 | _::_,[],h,_=>by simp at h
 | [x],[y],h,hk=>by
  simp only [List.map_cons,List.map_nil,List.cons.injEq,and_true] at h;simp only [Sj] at hk;rw [Xb h hk]
 | [_],_::_::_,h,_=>by simp at h
 | x::x2::l,y::m,h,hk=>by
  simp only [List.map_cons,List.cons.injEq] at h;cases m with
  | nil=>simp at h
  | cons y2 m=>
   simp only [Sj,Bool.and_eq_true] at hk;rw [Xb h.1 hk.1,Xc (l:=x2::l) (m:=y2::m) (by simpa using h.2) hk.2]
set_option maxHeartbeats 1000000 in
theorem V1 {E:Env} {bN:List CT} {ops:List Oper} {B:Array Nat} {id:Nat} {s:bP} {κ:bP→Option R} {z:R} {m0 rid:Nat} {n0:Nat×Nat} {ro:Option Nat} {a:Act} {Q:Exit→Act→World→Prop} (hE:xo E bN) (bF:E.P.follows .mixedOrders=true) (h:Sb E bN ops B id s κ=some z)
  (ho:s.ok) (hm:m0≤s.N) (hn:PC n0 s a) (hs:SR w F O μ (below s.N) s.st ft a) (hk:∀ s' a' w' F' O' bC bZ,κ s'=some z→zl w F O μ m0 n0 s' a' w' F' O' bC bZ→Q .normal a' w'):(Code.region rid ⟨ops⟩ true).wpIn (Wr ro) 0 E.P Q a w:=by
 unfold Sb at h;split at h
 case h_2=>cases h
 rename_i pre o1 o2 o3 hsp;have YL:=QA hsp;split at h
 case h_2=>cases h
 rename_i t m k d1 d2 m3 x KY;split at h
 case h_2=>cases h
 rename_i af0;simp only [Bool.and_eq_true,Bool.not_eq_true'] at af0;obtain ⟨⟨aa2,V7,UJ⟩,⟨ahh,af1⟩,ahi,ahj⟩:=af0;have af1:=Nat.ne_of_beq_eq_false af1;split at h
 case h_2=>cases h
 rename_i kt et ht;split at h
 case h_2=>cases h
 rename_i Y8 hzt;have aeL:(o1.op=.mapEntry t m k∧o1.dst=some d1∧o1.guard=none)∧(o2.op=.extract (.tmp d1) 1∧o2.dst=some d2∧o2.guard=none)∧(∃ t',o3.op=.entryStore t' m3 (.tmp d2) x)∧o3.dst=none∧o3.guard=none:=by
  unfold afY at KY;split at KY
  ·rename_i ho1 Y0 ho3;split at KY
   ·rename_i e1 e2 e3;split at KY
    ·rename_i hg;simp only [Bool.and_eq_true] at hg;obtain ⟨g1,g2,g3,g4,g5⟩:=hg;have g4:=Nat.eq_of_beq_eq_true g4;have g5:=Nat.eq_of_beq_eq_true g5;subst g4 g5;simp only [Option.some.injEq,Prod.mk.injEq] at KY;obtain ⟨rfl,rfl,rfl,rfl,rfl,rfl,rfl⟩:=KY;have gd:∀ o:Oper,V3 o=true→o.guard=none:=fun o ho=>by
      unfold V3 at ho;cases e:o.guard with
      | none=>rfl
      | some _=>rw [e] at ho;cases ho
     exact ⟨⟨ho1,e1,gd _ g1⟩,⟨Y0,e2,gd _ g2⟩,⟨_,ho3⟩,e3,gd _ g3⟩
    ·cases KY
   ·cases KY
  ·cases KY
 clear KY;obtain ⟨⟨ho1,abc,YT⟩,⟨Y0,abd,Wa⟩,⟨t',ho3⟩,abe,hg3⟩:=aeL;generalize hp:pre.length=p at *;have hlen:ops.length=p+3:=by rw [YL];simp [hp]
 have acC:=aa2;simp only [tl,Bool.and_eq_true] at acC;have hB:∀ i o,ops[i]?=some o→B.getD i 0 < 2 ^ i:=fun i o KR=>by
  have:=(Jv acC.1 i o KR).2.1;rwa [Nat.zero_add] at this
 have at1:ops[p]?=some o1:=by rw [YL,List.getElem?_append_right (by omega),hp];simp
 have at2:ops[p+1]?=some o2:=by rw [YL,List.getElem?_append_right (by omega),hp];simp
 have at3:ops[p+2]?=some o3:=by rw [YL,List.getElem?_append_right (by omega),hp];simp
 have oy:∀ j,j < p+2→bit B (p+2) j=true:=W_ UJ;have af2:∀ j,j < p+3→inc B (p+2) j=false:=fun j hj=>by
  simp only [inc,Bool.and_eq_false_iff,Bool.not_eq_false'];by_cases e:j=p+2
  ·exact .inl (.inl (by rw [e];exact Nat.beq_refl _))
  ·exact .inl (.inr (oy j (by omega)))
 have af3:∀ i,i < p→inc B i (p+2)=false:=fun i hi=>by
  simp only [inc,Bool.and_eq_false_iff,Bool.not_eq_false'];exact .inr (oy i (by omega))
 have aey:Inv s ops [(p,[id]),(p+2,[id])] s []:=⟨ho,rfl,rfl,fun t=>rfl,fun id=>rfl,fun j e hj=>by cases hj⟩;obtain ⟨q,T,OW,E5,Ie,_,Vn,hTH,Qs⟩:=Uq hE hB ht hzt af3 (q:=[]) h aey (fun j e hj=>by cases hj) rfl (fun i o KR=>by
  simp only [List.length_nil,Nat.zero_add];rw [YL,List.getElem?_append_left (List.getElem?_eq_some_iff.1 KR).1];exact KR) (by simpa using hp)
 simp only [List.length_nil,Nat.zero_add] at Qs;unfold afX at OW;split at OW
 case h_2=>cases OW
 rename_i b9 cs kt' et' hvm hvk ht2;rw [ht] at ht2;cases ht2;split at OW
 case h_2=>cases OW
 rename_i yz1 j kk bY Tt hkg;have bY:=Nat.eq_of_beq_eq_true bY;subst bY;rw [hzt] at Tt;cases Tt;split at OW
 case h_2=>cases OW
 rename_i i l tu Sz hl ahk;split at OW
 case h_2=>cases OW
 rename_i n aeM YS;have aeM:=Nat.eq_of_beq_eq_true aeM;subst aeM;split at OW
 case h_2=>cases OW
 rename_i OJ v _ hdr;split at OW
 case h_2=>cases OW
 rename_i yz y0 hlz hlx;split at OW
 case h_2=>cases OW
 rename_i af4 yf0 hbz hby;obtain ⟨yzz,hyc⟩:∃ yc:C i,yc=af4:=⟨af4,rfl⟩;subst hyc;obtain ⟨y,hyc⟩:∃ yc:C i,yc=yf0:=⟨yf0,rfl⟩;subst hyc;have hyz:yz=Y8:=by
  simp only [uc] at hlz;split at hlz
  ·split at hlz
   ·exact (Option.some.inj hlz).symm
   ·cases hlz
  ·cases hlz
 subst hyz;obtain ⟨fs,DL,_,_⟩:=JC Sz;have L7:=JD Sz kk;have hza:zvA E.P et=some (cR yz):=by
  have:=(OK hzt T.H T.N).1;simpa only [TA.av] using this
 obtain ⟨_,ahl,_⟩:=iB hlz;obtain ⟨_,ahm,ahn⟩:=iB hlx;have hjl:(get j kk).length=n+1:=by
  have h1:=congrArg List.length (q8 j kk);have h2:=congrArg List.length OJ;have h3:=congrArg List.length (q8 i y);have h4:=congrArg List.length (show get i y=get j kk++[y0] from ff hby);simp at h1 h2 h3 h4;omega
 have pk:∀ (yy:C i) (q0:cN),get i yy=get j kk++[q0]→dd (n+1) (get i yy)=(cR ⟨.st j,kk⟩,cR q0):=fun yy q0 e=>by
  rw [e,KZ];simp only [dd,← hjl,List.take_left,List.drop_left]
 have hpz:=pk yzz yz (ff hbz);have hpy:=pk y y0 (ff hby);obtain ⟨lA,hlA⟩:∃ lA,lA=l.map fun x=>dd (n+1) (get i x):=⟨_,rfl⟩;obtain ⟨r,hr⟩:∃ r,r=l.findIdx? (gF i j (n+1) kk):=⟨_,rfl⟩;have hf:lJ (cR ⟨.st j,kk⟩) lA 0=some r:=by
  have:=BJ OJ Sz kk l 0;rw [← hlA,← hr] at this;rw [this];cases r<;>simp
 have hka:∀ jj,r=some jj→(lA.getD jj (.top,.top)).1=cR ⟨.st j,kk⟩∧jj < l.length:=fun jj e=>by
  rw [hr] at e;obtain ⟨h1,h2,_⟩:=List.findIdx?_eq_some_iff_getElem.1 e;refine ⟨?_,h1⟩;have h3:=Xc (by rw [Xd OJ,q8]) h2;rw [hlA];have e2:((l.map fun x=>dd (n+1) (get i x)).getD jj (.top,.top)).1=.agg (((get i l[jj]).take (n+1)).map cR):=by
   simp [List.getD,h1,dd]
  rw [e2,KZ,h3]
 obtain ⟨lp,hlp⟩:∃ lp:List (C i),lp=afZ l yzz r:=⟨_,rfl⟩;have af5:Laid n yz l lp:=by
  rw [hlp];cases r with
  | some _=>exact .inl rfl
  | none=>
   refine .inr ⟨yzz,rfl,?_⟩;rw [show get i yzz=get j kk++[yz] from ff hbz,← hjl,List.drop_left]
 have KY:Gu lA (cR ⟨.st j,kk⟩) (cR yz) r=lp.map fun x=>dd (n+1) (get i x):=by
  rw [hlp,hlA];cases r<;>simp [Gu,afZ,hpz]
 have af6:(Gu lA (cR ⟨.st j,kk⟩) (cR yz) r).set (DM lA r) (((Gu lA (cR ⟨.st j,kk⟩) (cR yz) r).getD (DM lA r) (.top,.top)).1,cR y0)=(pB (gF i j (n+1) kk) l y).map fun x=>dd (n+1) (get i x):=by
  rw [K3 hpy,← hr,← hlA];cases r with
  | none=>simp [Gu,DM,p9,List.getD]
  | some jj=>simp only [Gu,DM,p9,(hka jj rfl).1]
 obtain ⟨acV,ado⟩:∃ lf,lf=(pB (gF i j (n+1) kk) l y).map fun x=>dd (n+1) (get i x):=⟨_,rfl⟩;rw [← ado] at af6;have hsH:s.st.H tu=some (.map lA):=by
  have h9:s.st.H tu=some (.map (l.map fun x=>dd (JG i) (get i x))):=dF (by rw [← hTH];exact hl);rw [h9,YS,hlA]
 have V4:∀ (D:Nat→Bool) (H0:Hp) (b9:Nat),y9 D H0 q b9=H0 b9:=fun D H0 b9=>Si Vn;have adp:Inv s ops [(p+2,[tu])] T q:=⟨E5.ok,E5.nt,E5.N,E5.tm,E5.H,fun j e hj=>by
  obtain ⟨o',m1,m2,_⟩:=E5.AB j e hj;exact ⟨o',m1,m2,fun b9 bY=>by rw [Vn j e hj] at bY;cases bY⟩⟩
 let YM:RE:=⟨none,.lit undef,[(tu,some (.map acV))],T.N,0⟩
 let rs:AV→AV→List RE:=fun v1 v2=>YM::⟨some d2,v2,[],T.N,0⟩::⟨some d1,v1,[],T.N,0⟩::q
 have af7:∀ v1 v2,(rs v1 v2).length=p+3:=fun v1 v2=>by simp [rs,Ie]
 have wfr:∀ v1 v2,Y6 s.N (rs v1 v2) T.N:=fun v1 v2=>⟨⟨⟨E5.N,rfl⟩,rfl⟩,rfl⟩;have af8:∀ v1 v2 i',i' < p→eU (rs v1 v2) i'=eU q i':=fun v1 v2 i' hi=>by
  simp only [rs];rw [xQ (by simp;omega),xQ (by simp;omega),xQ (by omega)]
 have aeN:∀ v1 v2,eU (rs v1 v2) p=some ⟨some d1,v1,[],T.N,0⟩:=fun v1 v2=>by
  simp only [rs];rw [xQ (by simp;omega),xQ (by simp;omega)];simp [eU,Ie]
 have af9:∀ v1 v2,eU (rs v1 v2) (p+1)=some ⟨some d2,v2,[],T.N,0⟩:=fun v1 v2=>by
  simp only [rs];rw [xQ (by simp;omega)];simp [eU,Ie]
 have af_:∀ v1 v2,eU (rs v1 v2) (p+2)=some YM:=fun v1 v2=>by
  simp [rs,eU,Ie]
 have aeO:∀ v1 v2 (D:Nat→Bool) (H0:Hp) b9,D (p+2)=false→y9 D H0 (rs v1 v2) b9=H0 b9:=fun v1 v2 D H0 b9 hD=>by
  simp only [rs,y9,List.length_cons,Ie,hD,Bool.false_and,y8,List.any_nil,Bool.and_false];exact V4 _ _ _
 have acW:∀ v1 v2 q',YC q' q→YC q' (rs v1 v2):=fun v1 v2 q' ⟨u,e⟩=>⟨YM::⟨some d2,v2,[],T.N,0⟩::⟨some d1,v1,[],T.N,0⟩::u,by simp only [rs,e,List.cons_append]⟩;have aga:∀ j',xp [(p+2,[tu])] j'=if j'=p+2 then [tu] else []:=fun j'=>by
  simp only [xp];by_cases e:j'=p+2
  ·subst e;simp
  ·rw [if_neg e]
   first
    | rw [cd e]
    | rw [cd (fun h=>e h.symm)]
 have wtd:∀ {o:Oper} {a':Act},o.guard=none→Region.wanted o (yielded ⟨ops⟩ a'.tmps)=true:=fun hg=>by unfold Region.wanted;rw [hg]
 let Tf:bP:=⟨T.nt,T.N,(d1,.top)::(d2,.top)::T.tm,cD T.H [(tu,some (.dmap i (pB (gF i j (n+1) kk) l y)))]⟩
 have OW:κ Tf=some z:=OW;have jO:Sub T.H Tf.H T.N:=CN hl rfl rfl;have agb:Tf.ok:=by
  refine ⟨fun t=>?_,fun id l' Ct=>?_⟩
  ·show (look ((d1,.top)::(d2,.top)::T.tm) t).wf Tf.H T.N;simp only [look];cases Nat.beq t d1 with
   | true=>simp only [TA.wf]
   | false=>
    cases Nat.beq t d2 with
    | true=>simp only [TA.wf]
    | false=>exact (jR jO (Nat.le_refl _) _ (E5.ok.tm t)).2
  ·have Ct:aT (cD T.H [(tu,some (.dmap i (pB (gF i j (n+1) kk) l y)))]) id=some l':=Ct;rw [qe] at Ct;split at Ct
   ·cases Ct;simp only [aY.refs,im]
   ·exact (hG jO (Nat.le_refl _) _ (E5.ok.H id l' Ct)).2
 have hsN:s.N≤T.N:=by
  have key:∀ {q:List RE} {N:Nat},Y6 s.N q N→s.N≤N:=by
   intro q
   induction q with
   | nil=>intro N h;exact Nat.le_of_eq h.symm
   | cons x q ih=>intro N h;have:=ih h.1;have:=h.2;omega
  exact key E5.N
 have aho:∀ v1 v2 (H0:Hp),(∀ b9,b9≠tu→H0 b9=s.st.H b9)→∀ w' F' O' bC bZ a',a'.defers=a.defers→SR w' F' O' bC (below T.N) ⟨s.nt,T.N,AA (fun _=>true) s.st.tm (rs v1 v2),y9 (fun _=>true) H0 (rs v1 v2)⟩ bZ a'→Fr w F O μ (below m0) w' F' O' bC→Q .normal a' w':=by
  intro v1 v2 H0 hH0 w' F' O' bC bZ a' tt gh ze;refine hk Tf a' w' F' O' bC bZ OW ⟨agb,Nat.le_trans hm hsN,⟨E5.nt.trans hn.1,by rw [tt];exact hn.2⟩,⟨?_,?_,fun t=>?_,gh.df⟩,ze⟩
  ·have e:(y9 (fun _=>true) H0 (rs v1 v2))=xn Tf.H:=by
    funext id;simp only [rs,y9,Bool.true_and,y8,List.any_cons,List.any_nil,Bool.or_false,YM];by_cases e:id=tu
    ·subst e;simp only [Nat.beq_refl,Hp.dh,if_true];rw [KA (H:=Tf.H) (show aT Tf.H id=some (.dmap i (pB (gF i j (n+1) kk) l y)) by simp only [Tf];rw [qe,if_pos rfl]) rfl];simp only [aY.dC,YS,ado]
    ·rw [cd (fun h=>e h.symm)];simp only;rw [V4,hH0 id e];have e1:aT Tf.H id=aT T.H id:=by simp only [Tf];rw [qe,if_neg e]
     show xn s.H id=xn Tf.H id;rw [← hTH];unfold xn;rw [e1];cases hb:aT T.H id with
     | none=>rfl
     | some b=>
      simp only [Option.bind_some];cases hv:b.Uy with
      | false=>rfl
      | true=>
       simp only;rw [qN jO (E5.ok.H id _ hb)]
   have:=gh.hr;simp only [e] at this;exact this
  ·exact gh.nt.trans E5.nt.symm
  ·have:=gh.tm t;simp only [rs,AA,Bool.true_and,YM,OX] at this;show VR w' F' bC _ ((look ((d1,.top)::(d2,.top)::T.tm) t).av Tf.H) _;simp only [look];cases e1:Nat.beq t d1 with
   | true=>simp only [TA.av];exact .top _
   | false=>
    cases e2:Nat.beq t d2 with
    | true=>simp only [TA.av];exact .top _
    | false=>
     rw [cd (fun h=>Nat.ne_of_beq_eq_false e2 h.symm),cd (fun h=>Nat.ne_of_beq_eq_false e1 h.symm)] at this;simp only at this;rw [← E5.tm t] at this;simp only;rw [(jR jO (Nat.le_refl _) _ (E5.ok.tm t)).1];exact this
 have Xe:∀ (s':fT) (q':List RE) (e:RE) (o:Oper) (Z:fT→Prop),s'.nt=s.nt→e.d=o.dst→(∀ b9,b9∈e.up.map (·.1)→b9∈xp [(p+2,[tu])] q'.length)→Z ⟨s.nt,0,fun _=>.top,fun _=>none⟩→adg ops B [(p+2,[tu])] s' q' e o Z:=fun s' q' e o Z h0 h1 h2 h3=>
  ⟨h1,h2,⟨s.nt,0,fun _=>.top,fun _=>none⟩,h0.symm,fun _=>.inl rfl,fun _=>.inl rfl,h3⟩
 let X1:Nat→Bool:=fun i'=>Nat.beq i' p||(Nat.beq i' (p+1)||Nat.beq i' (p+2))
 let Φ1:(Nat→Bool)→Prop:=fun D=>D p=false∧D (p+1)=false∧D (p+2)=false
 have at0:∀ i' o,ops[i']?=some o→i' < p∧pre[i']?=some o∨i'=p∧o=o1∨i'=p+1∧o=o2∨i'=p+2∧o=o3:=fun i' o KR=>by
  have dQ:i' < ops.length:=(List.getElem?_eq_some_iff.1 KR).1;rcases Nat.lt_or_ge i' p with e | e
  ·rw [YL,List.getElem?_append_left (by omega)] at KR;exact .inl ⟨e,KR⟩
  ·rcases (show i'=p∨i'=p+1∨i'=p+2 by omega) with e | e | e
   ·subst e;rw [at1] at KR;exact .inr (.inl ⟨rfl,(Option.some.inj KR).symm⟩)
   ·subst e;rw [at2] at KR;exact .inr (.inr (.inl ⟨rfl,(Option.some.inj KR).symm⟩))
   ·subst e;rw [at3] at KR;exact .inr (.inr (.inr ⟨rfl,(Option.some.inj KR).symm⟩))
 have emp:jI (Array.replicate ops.length false)=fun _=>false:=by
  funext j;simp only [jI];by_cases h:j < ops.length<;>simp [h]
 have eT:∀ q:List RE,AA (fun _=>false) s.st.tm q=s.st.tm:=fun q=>by
  induction q with
  | nil=>rfl
  | cons x q ih=>funext t;exact congrFun ih t
 have eH:∀ q:List RE,y9 (fun _=>false) s.st.H q=s.st.H:=fun q=>by
  induction q with
  | nil=>rfl
  | cons x q ih=>funext t;exact congrFun ih t
 have eK:∀ q:List RE,kD (fun _=>false) s.N q=below s.N:=fun q=>by
  induction q with
  | nil=>rfl
  | cons x q ih=>funext t;simp [kD,ih]
 refine wpIn_region_any bF ?_;refine Ow (s:=s.st) (rs:=rs .top .top) (N:=T.N) (m0:=m0) (X:=X1) (Φ:=Φ1) (Z:=fun i' M=>i'=p→M=(T.mask ops B [(p+2,[tu])] p).st) (w0:=w) (F0:=F) (O0:=O) (μ0:=μ) (ds0:=a.defers) (ro:=ro) aa2 (wfr _ _) hm (by rw [af7,hlen]) ?_ ?_ ?_ ?_ _ _ _ _ F O μ ft (by simp) (by
   unfold unl;simp [List.countP_replicate]) (by
   rw [show (⟨ops⟩:Array Oper).size=ops.length from rfl,emp];intro i hi;cases hi) ?_ (Fr.drew _) rfl (by
   rw [show (⟨ops⟩:Array Oper).size=ops.length from rfl,emp];exact ⟨rfl,rfl,rfl⟩)
 ·rintro D i' ⟨h1,h2,h3⟩ hX
  simp only [X1,Bool.or_eq_false_iff] at hX;have e1:=Nat.ne_of_beq_eq_false hX.1;have e2:=Nat.ne_of_beq_eq_false hX.2.1;have e3:=Nat.ne_of_beq_eq_false hX.2.2;simp only [Φ1,more];rw [if_neg (fun h=>e1 h.symm),if_neg (fun h=>e2 h.symm),if_neg (fun h=>e3 h.symm)];exact ⟨h1,h2,h3⟩
 ·intro i' o KR;rcases at0 i' o KR with ⟨e,UN⟩ | ⟨rfl,rfl⟩ | ⟨rfl,rfl⟩ | ⟨rfl,rfl⟩
  ·obtain ⟨e',q',m1,m2,m3,m4⟩:=Qs i' o UN;exact ⟨e',q',by rw [af8 _ _ _ e];exact m1,m2,acW _ _ _ m3,.inl ⟨by simp only [X1];rw [cd (by omega),cd (by omega),cd (by omega)];rfl,m4.one⟩⟩
  ·refine ⟨_,q,aeN _ _,Ie,acW _ _ _ ⟨[],rfl⟩,.inr ⟨by simp [X1],abc.symm,(fun b9 bY=>by cases bY),_,E5.nt,?_,?_,fun _=>rfl⟩⟩
   ·have:=adp.WZ (B:=B) hB;rw [Ie] at this;rw [Ie];exact this
   ·have:=adp.W0 (B:=B) hB;rw [Ie] at this;rw [Ie];exact this
  ·exact ⟨_,⟨some d1,.top,[],T.N,0⟩::q,af9 _ _,by simp [Ie],⟨[YM,⟨some d2,.top,[],T.N,0⟩],rfl⟩,.inr ⟨by simp [X1],Xe _ _ _ _ _ rfl abd.symm (fun b9 bY=>by cases bY) fun h=>by omega⟩⟩
  ·refine ⟨_,⟨some d2,.top,[],T.N,0⟩::⟨some d1,.top,[],T.N,0⟩::q,af_ _ _,by simp [Ie],⟨[YM],rfl⟩,.inr ⟨by simp [X1],Xe _ _ _ _ _ rfl abe.symm (fun b9 bY=>?_) fun h=>by omega⟩⟩;simp only [YM,List.map_cons,List.map_nil,List.mem_singleton] at bY;rw [aga,if_pos (by simp [Ie]),bY];simp
 ·
  intro i' o M KR hX hZ fuel listed a1 w1 F1 O1 KC Wz fV hun OU hDi hBi YD Qt gh ze tt;rcases at0 i' o KR with ⟨e,_⟩ | ⟨rfl,rfl⟩ | ⟨rfl,rfl⟩ | ⟨rfl,rfl⟩
  ·simp only [X1] at hX;rw [cd (by omega),cd (by omega),cd (by omega)] at hX;cases hX
  ·have hZ:=hZ rfl;subst hZ;unfold wpOpIn;have ahp:(⟨ops⟩:Array Oper)[i']?=some o:=by simpa using KR
   rw [ahp];simp only [wtd YT,if_true];refine T8 (fun c hc=>by rw [ho1] at hc;cases hc) ?_;have hxm:ee (T.mask ops B [(i'+2,[tu])] i').st m (.mp tu):=fun {w F O μ K ft act} hs=>by have:=bX hvm hs;simpa only [TA.av] using this
   have hxk:ee (T.mask ops B [(i'+2,[tu])] i').st k (cR ⟨.st j,kk⟩):=fun {w F O μ K ft act} hs=>Ms hkg _ (hvk▸gE _ k hs);have hJH:(Js s.st (rs .top .top) (jI listed)).H tu=some (.map lA):=by
    show y9 (jI listed) s.st.H (rs .top .top) tu=_;rw [aeO _ _ _ _ _ YD.2.2,hsH]
   obtain ⟨v0,st,w2,O2,Lu,lH,hhr,aeP⟩:=YN ho1 (hxm.more Qt) hJH (hxk.more Qt) hza (vk ahl) L7.2.1 ht DL L7.1 hf (fun jj e=>(hka jj e).1) gh;unfold Oper.wp;rw [lH,Oper.upon_value,abc]
   let s2:fT:=⟨s.nt,s.N,s.st.tm,s.st.H.dh [(tu,some (.HJ (lp.map fun x=>dd (JG i) (get i x)) (DM lA r) st))]⟩
   let v1:AV:=.nP [.top,.int .i64 (st:Nat)]
   let v2:AV:=.int .i64 (st:Nat)
   have hil:i' < listed.size:=by rw [fV,hlen];omega
   have hD':jI (listed.setIfInBounds i' true)=more (jI listed) i':=Jw hil;have hDo:∀ q',q'≠i'→jI (listed.setIfInBounds i' true) q'=jI listed q':=fun q' hq=>by rw [hD'];simp only [more,if_neg hq]
   have agc:jI (listed.setIfInBounds i' true) i'=true:=by rw [hD'];simp [more]
   have adq:s2.H tu=some (.HJ (lp.map fun x=>dd (JG i) (get i x)) (DM lA r) st):=by simp [s2,Hp.dh]
   have agd:∀ q',q'≠tu→s2.H q'=s.st.H q':=fun q' hq=>by simp only [s2,Hp.dh,if_neg hq]
   have age:d1 < a1.tmps.size:=by rw [gh.nt];exact Nat.le_of_ble_eq_true ahi
   have eKK:kD (jI (listed.setIfInBounds i' true)) s2.N (rs v1 v2)=kD (jI listed) s.N (rs .top .top):=by
    funext id;rw [hD'];refine propext ((Mq (aeN v1 v2) id).trans ⟨fun h=>?_,fun h=>.inl h⟩);rcases h with h | ⟨h1,h2⟩
    ·exact h
    ·simp only at h1 h2;omega
   refine Ow (s:=s2) (rs:=rs v1 v2) (N:=T.N) (m0:=m0) (X:=fun q'=>bit B i' q'||Nat.beq q' i') (Φ:=fun D=>∀ q',jI (listed.setIfInBounds i' true) q'=true→D q'=true) (Z:=fun _ _=>True) (w0:=w) (F0:=F) (O0:=O) (μ0:=μ) (ds0:=a.defers) (ro:=ro)
    aa2 (wfr _ _) hm (by rw [af7,hlen]) ?_ ?_ ?_ ?_ fuel _ _ w2 F1 O2 KC Lu (by simp [fV]) (by have:=R6 hil hDi;omega) ?_ ?_ (ze.trans (aeP.OT fun id (bY:id < m0)=>VU (show id < s.N by omega))) tt (fun _ h=>h)
   ·intro D q' hD _ q2 hq2;simp only [more];split
    ·rfl
    ·exact hD q2 hq2
   ·intro q' o' aeQ;rcases at0 q' o' aeQ with ⟨e,UN⟩ | ⟨rfl,rfl⟩ | ⟨rfl,rfl⟩ | ⟨rfl,rfl⟩
    ·obtain ⟨e',q2,m1,m2,m3,m4⟩:=Qs q' o' UN;refine ⟨e',q2,by rw [af8 _ _ _ e];exact m1,m2,acW _ _ _ m3,?_⟩;cases hb:bit B i' q' with
     | true=>exact .inr ⟨by simp,Xe _ _ _ _ _ rfl m4.one.d (fun b9 bY=>by rw [m4.up] at bY;cases bY) trivial⟩
     | false=>
      refine .inl ⟨by simp only [Bool.false_or];exact cd (by omega),?_⟩;have ahq:Laid n yz l lp:=af5;refine m4.two ?_ i n l lp (DM lA r) st (by rw [← hTH];exact hl) YS ahq;rw [m2];simp only [inc,cd (show ¬ q'=i' by omega),hb,Bool.not_false,Bool.true_and,Bool.and_true];cases UJ:bit B q' i' with
      | false=>rfl
      | true=>have:=CI (hB q' o' aeQ) UJ;omega
    ·exact ⟨_,q,aeN _ _,Ie,acW _ _ _ ⟨[],rfl⟩,.inr ⟨by simp,Xe _ _ _ _ _ rfl abc.symm (fun b9 bY=>by cases bY) trivial⟩⟩
    ·refine ⟨_,⟨some d1,v1,[],T.N,0⟩::q,af9 _ _,by simp [Ie],⟨[YM,⟨some d2,v2,[],T.N,0⟩],rfl⟩,.inl ⟨?_,abd.symm,?_,(fun b9 bY=>by cases bY),⟨s.nt,0,fun t=>if t=d1 then v1 else .top,fun _=>none⟩,rfl,fun t=>?_,fun _=>.inl rfl,.inr ⟨fun _=>wtd Wa,v2,[],?_,il.refl _,(fun b9 bY=>by cases bY),(fun b9 b' bY=>by cases bY),(fun c hc=>by rw [Y0] at hc;cases hc)⟩⟩⟩
     ·simp only [Bool.or_eq_false_iff];refine ⟨?_,cd (by omega)⟩;cases hb:bit B i' (i'+1) with
      | false=>rfl
      | true=>have:=CI (hB i' _ at1) hb;omega
     ·rw [abd];exact ahj
     ·by_cases e:t=d1
      ·refine .inr ⟨?_,?_⟩
       ·rw [e];simp only [List.length_cons,Ie];exact ahh
       ·simp only [e,if_true,AA,List.length_cons,Ie,V7,OX,Nat.beq_refl,Bool.and_self]
      ·exact .inl (by simp only [if_neg e])
     ·have m_:=Ny (P:=E.P) (s:=⟨s.nt,0,fun t=>if t=d1 then v1 else .top,fun _=>none⟩) (cs:=[.top,.int .i64 (st:Nat)]) Y0 (fun {w F O μ K ft act} hs=>by
       have:=hs.tm d1;simp only [if_true] at this;exact this) (by simp)
      exact m_
    ·let M2:fT:=⟨s.nt,0,fun t=>if t=d2 then v2 else if t=d1 then .top else (look T.tm t).av T.H,fun b9=>if b9=tu then some (.HJ (lp.map fun x=>dd (JG i) (get i x)) (DM lA r) st) else none⟩
     have hv2:∀ (xx:Operand),ee M2 xx ((bP.val ⟨T.nt,T.N,(d1,.top)::(d2,.top)::T.tm,T.H⟩ xx).av T.H):=by
      intro xx w F O μ K ft act hs;cases xx with
      | tmp q2=>
       have:=hs.tm q2;simp only [bP.val,look];cases e1:Nat.beq q2 d1 with
       | true=>simp only [TA.av];exact .top _
       | false=>
        cases e2:Nat.beq q2 d2 with
        | true=>simp only [TA.av];exact .top _
        | false=>
         simp only [M2,if_neg (Nat.ne_of_beq_eq_false e1),if_neg (Nat.ne_of_beq_eq_false e2)] at this;exact this
      | const u=>simp only [bP.val,NM];exact Kx u
      | func f=>simp only [bP.val,TA.av,dD];exact .fn _ [] [] [] [] rfl rfl (fun i h=>by cases h) (fun i h=>by cases h)
      | global g=>simp only [bP.val,TA.av];exact .top _
     have m_:=PG (P:=E.P) (s:=M2) (va:=cR y0) ho3 (id:=tu) (j:=DM lA r) (st:=st) (l:=lp.map fun x=>dd (JG i) (get i x))
      (fun {w F O μ K ft act} hs=>by have:=hv2 m3 hs;rw [ahk] at this;simpa only [TA.av] using this) (by simp only [M2,if_true]) (fun {w F O μ K ft act} hs=>by
       have:=hs.tm d2;simp only [M2,if_true] at this;exact this) (fun {w F O μ K ft act} hs=>ahn T.H (hv2 x hs)) (vk ahm)
     have UU:(lp.map fun x=>dd (JG i) (get i x)).set (DM lA r) (((lp.map fun x=>dd (JG i) (get i x)).getD (DM lA r) (.top,.top)).1,cR y0)=acV:=by
      rw [YS];show (lp.map fun x=>dd (n+1) (get i x)).set (DM lA r) (((lp.map fun x=>dd (n+1) (get i x)).getD (DM lA r) (.top,.top)).1,cR y0)=acV;rw [← KY];exact af6
     rw [UU] at m_;refine ⟨_,⟨some d2,v2,[],T.N,0⟩::⟨some d1,v1,[],T.N,0⟩::q,af_ _ _,by simp [Ie],⟨[YM],rfl⟩,.inl ⟨?_,abe.symm,by rw [abe],fun b9 bY=>?_,M2,rfl,fun t=>?_,fun b9=>?_,.inr ⟨fun _=>wtd hg3,_,_,m_,il.refl _,(fun b9 bY=>bY),fun b9 b' bY cl=>?_,(fun c hc=>by rw [ho3] at hc;cases hc)⟩⟩⟩
     ·simp only [Bool.or_eq_false_iff];refine ⟨?_,cd (by omega)⟩;cases hb:bit B i' (i'+2) with
      | false=>rfl
      | true=>have:=CI (hB i' _ at1) hb;omega
     ·simp only [YM,List.map_cons,List.map_nil,List.mem_singleton] at bY;rw [aga,if_pos (by simp [Ie]),bY];simp
     ·have hh:H7 B (i'+2) t 0 ops=false:=QC fun q2 hq2=>by rw [Nat.zero_add];exact af2 q2 (by omega)
      have abf:((⟨some d2,v2,[],T.N,0⟩:RE)::⟨some d1,v1,[],T.N,0⟩::q).length=i'+2:=by simp [Ie]
      rw [abf];by_cases e2:t=d2
      ·refine .inr ⟨hh,?_⟩;simp only [M2,e2,if_true,AA,List.length_cons,Ie,oy (i'+1) (by omega),OX,Nat.beq_refl,Bool.and_self]
      ·by_cases e1:t=d1
       ·exact .inl (by simp only [M2,if_neg e2,if_pos e1])
       ·refine .inr ⟨hh,?_⟩;simp only [M2,if_neg e2,if_neg e1,AA,OX,cd (fun h=>e2 h.symm),cd (fun h=>e1 h.symm),Bool.and_false];rw [E5.tm t];refine uR fun j2 e' TI _=>?_;rw [oy j2 (by have:=jH TI;omega)]
     ·by_cases e:b9=tu
      ·refine .inr ⟨?_,?_⟩
       ·have abf:((⟨some d2,v2,[],T.N,0⟩:RE)::⟨some d1,v1,[],T.N,0⟩::q).length=i'+2:=by simp [Ie]
        rw [abf];simp only [Gs,af2 (i'+2) (by omega),Bool.and_false,Bool.or_false]
       ·simp only [M2,if_pos e,y9,y8,List.any_nil,Bool.and_false];rw [V4,e,adq]
      ·exact .inl (by simp only [M2,if_neg e])
     ·simp only [YM,List.map_cons,List.map_nil,List.mem_singleton] at bY;subst bY;simp only [YM,Hp.dh,if_true,Option.some.injEq] at cl;exact ⟨.map acV,by simp only [Hp.dh,if_true],by rw [cl];exact eQ.refl _⟩
   ·intro q' o' M' aeQ hX2 _ ahz agr a2 w3 F3 O3 μ3 ft3 _ _ _ agf ahH agh;exfalso;simp only [Bool.or_eq_true] at hX2;rcases hX2 with hX2 | hX2
    ·have h1:=hBi q' hX2;have h2:=agh q' (by rw [hD'];simp only [more];split<;>first | rfl | exact h1);rw [agf] at h2;cases h2
    ·have e:=Nat.eq_of_beq_eq_true hX2;have h2:=agh q' (by rw [e];exact agc);rw [agf] at h2;cases h2
   ·intro w' F' O' bC bZ a' _ aez ahr ahs;exact aho v1 v2 s2.H agd w' F' O' bC bZ a' aez ahr ahs
   ·rw [hD'];intro q1 hq1 q2 hb;simp only [more] at hq1 ⊢;split
    ·rfl
    ·split at hq1
     ·rename_i e;subst e;exact hBi q2 hb
     ·exact OU q1 hq1 q2 hb
   ·have hD2:jI (listed.setIfInBounds i' true) (i'+2)=false:=by rw [hDo _ (by omega)];exact YD.2.2
    have hD1:jI (listed.setIfInBounds i' true) (i'+1)=false:=by rw [hDo _ (by omega)];exact YD.2.1
    rw [eKK];refine ⟨?_,?_,fun t=>?_,(gh.df.step aeP:wx w2 F1 O2 a1.defers)⟩
    ·have e:(Js s.st (rs .top .top) (jI listed)).H.dh [(tu,some (.HJ (Gu lA (cR ⟨.st j,kk⟩) (cR yz) r) (DM lA r) st))]=(Js s2 (rs v1 v2) (jI (listed.setIfInBounds i' true))).H:=by
      funext q';show _=y9 (jI (listed.setIfInBounds i' true)) s2.H (rs v1 v2) q';rw [aeO _ _ _ _ _ hD2];by_cases e:q'=tu
      ·subst e;rw [adq,YS];simp only [Hp.dh,if_true];rw [KY]
      ·rw [agd q' e];simp only [Hp.dh,if_neg e];show y9 (jI listed) s.st.H (rs .top .top) q'=_;rw [aeO _ _ _ _ _ YD.2.2]
     rw [e] at hhr;exact hhr
    ·show (a1.put (some d1) _).tmps.size=s.nt;have:(a1.put (some d1) (.tuple #[v0,goInt (st:Nat)])).tmps.size=a1.tmps.size:=by simp [Act.put]
     rw [this];exact gh.nt
    ·show VR w2 F1 KC _ (AA (jI (listed.setIfInBounds i' true)) s2.tm (rs v1 v2) t) _;simp only [rs,AA,List.length_cons,Ie,hD2,hD1,agc,Bool.false_and,Bool.true_and,OX];have hold:=(gh.tm t).step gh.hr aeP fun _ h=>h;have hold:VR w2 F1 KC (kD (jI listed) s.N (rs .top .top)) (AA (jI listed) s.st.tm (rs .top .top) t) (a1.tmps.getD t undef):=hold;simp only [rs,AA,List.length_cons,Ie,YD.1,YD.2.1,YD.2.2,Bool.false_and] at hold;cases e:Nat.beq d1 t with
     | true=>
      have e:=Nat.eq_of_beq_eq_true e;subst e;have:(a1.put (some d1) (.tuple #[v0,goInt (st:Nat)])).tmps.getD d1 undef=.tuple #[v0,goInt (st:Nat)]:=by simp [Act.put,age]
      rw [this];exact .Ls (.cons (.top _) (.cons (.int _ _) .nil))
     | false=>
      have qL:=Nat.ne_of_beq_eq_false e;have:(a1.put (some d1) (.tuple #[v0,goInt (st:Nat)])).tmps.getD t undef=a1.tmps.getD t undef:=by simp [Act.put,Array.getElem?_setIfInBounds_ne qL]
      rw [this];have e3:AA (jI (listed.setIfInBounds i' true)) s2.tm q t=AA (jI listed) s.st.tm q t:=uR fun j2 e' TI _=>hDo j2 (by have:=jH TI;omega);simp only;rw [e3];exact hold
  ·exfalso;have h1:=hBi p V7;rw [YD.1] at h1;cases h1
  ·exfalso;have h1:=hBi p (oy p (by omega));rw [YD.1] at h1;cases h1
 ·rintro w' F' O' bC bZ a' ⟨D,YD,hD⟩
  have:=hD p (by omega);rw [YD.1] at this;cases this
 ·rw [show (⟨ops⟩:Array Oper).size=ops.length from rfl,emp];have:Js s.st (rs .top .top) (fun _=>false)=s.st:=by simp only [Js,eT,eH]
  rw [this];have e:kD (fun _=>false) s.st.N (rs .top .top)=below s.N:=eK _;rw [e];exact { hr:=hs.hr.drew _,nt:=hs.nt,tm:=fun t=>(hs.tm t).drew _,df:=hs.df.same fun _ _=>rfl }
end Go.Proofs.YtjkbbdldmdajkaaGreatDoor.c_
