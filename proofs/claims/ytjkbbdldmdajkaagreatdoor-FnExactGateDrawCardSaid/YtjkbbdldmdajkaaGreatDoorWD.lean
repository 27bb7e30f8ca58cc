/- A region whose order Go leaves open, at whose end an entry of a map is laid and stored (m[k] += v). No condition. -/
import Derived.Test.YtjkbbdldmdajkaaGreatDoorVX
import Derived.Test.YtjkbbdldmdajkaaGreatDoorWE
set_option linter.unusedSimpArgs false
set_option linter.unusedVariables false
namespace Go.Proofs.YtjkbbdldmdajkaaGreatDoor.c5
open Go Go.RowKit
variable {w w' ss:World} {F F' zT O O' uo:Nat→Prop} {μ aZ jE:Nat→Nat} {K K' C9:Nat→Prop} {ft bX:Nat→Nat→Prop} {P:Program} {R:Type}
def ahE (o:Oper):Bool:=match o.op with
 | .lookup _ _ _ _=>true
 | _=>false
def VD (o:Oper):Bool:=match o.guard with
 | none=>true
 | some _=>false
def lkE (E:Env) (T:bL) (id:Nat) (t0:TypeId) (o:Oper):Option cG:=match o.op with
 | .lookup t x k false=>match T.val x,T.val k,E.P.underlying t with
  | .mp b9,.agg cs,some (.map kt et)=>match Nat.beq b9 id&&Nat.beq t t0,zvT E.P et,Yp E kt cs with
   | true,some (.d yz),some ⟨j,kk⟩=>match TU E.P kt j,aS T.H id with
    | true,some (.dmap i l)=>match I9 i with
     | 0=>none
     | n+1=>match decEq ((zS i).take (n+1)) (zS j),(zS i).drop (n+1) with
      | .isTrue _,[v]=>match td v (.d yz) with
       | some ⟨v',z⟩=>match decEq v' v with
        | .isTrue e=>some ⟨v,m7 (gv i j (n+1) kk) (A0 i (n+1) v) (e▸z) l⟩
        | .isFalse _=>none
       | none=>none
      | _,_=>none
    | _,_=>none
   | _,_,_=>none
  | _,_,_=>none
 | _=>none
def N9 (E:Env) (bJ:List CT) (ops:List Oper) (B:Array Nat) (p id:Nat) (t0:TypeId):List Oper→Nat→bL→(bL→Option R)→Option R
 | [],_,T,κ=>κ T
 | o::rest,i,T,κ=>match oL T o.dst&&VD o with
  | true=>match ahE o with
   | true=>match lkE E (T.mask ops B [(p+2,[id])] i) id t0 o with
    | some y=>N9 E bJ ops B p id t0 rest (i+1) (T.put o.dst (.d y)) κ
    | none=>none
   | false=>IY E bJ ops B [(p,[id]),(p+2,[id])] o i T true (fun T=>N9 E bJ ops B p id t0 rest (i+1) T κ)
  | false=>none
def afO (E:Env) (ops:List Oper) (B:Array Nat) (p id:Nat) (t:TypeId) (m k m3 x:Operand) (d1 d2:Nat) (T:bL) (κ:bL→Option R):Option R:=
 match (T.mask ops B [(p+2,[id])] p).val m,(T.mask ops B [(p+2,[id])] p).val k,E.P.underlying t with
 | .mp b9,.agg cs,some (.map kt et)=>match Nat.beq b9 id,zvT E.P et,Yp E kt cs with
  | true,some (.d YO),some ⟨j,kk⟩=>match TU E.P kt j,aS T.H id,bL.val ⟨T.nt,T.N,(d1,.top)::(d2,.top)::T.tm,T.H⟩ m3 with
   | true,some (.dmap i l),.mp sB=>match Nat.beq sB id,I9 i with
    | true,n+1=>match decEq ((zS i).take (n+1)) (zS j),(zS i).drop (n+1) with
     | .isTrue _,[v]=>match td v (.d YO),td v (bL.val ⟨T.nt,T.N,(d1,.top)::(d2,.top)::T.tm,T.H⟩ x) with
      | some yz,some y0=>match LL (.st i) (get j kk++[yz]),LL (.st i) (get j kk++[y0]) with
       | some _,some y=>κ ⟨T.nt,T.N,(d1,.top)::(d2,.top)::T.tm,cA T.H [(id,some (.dmap i (oM (gv i j (n+1) kk) l y)))]⟩
       | _,_=>none
      | _,_=>none
     | _,_=>none
    | _,_=>none
   | _,_,_=>none
  | _,_,_=>none
 | _,_,_=>none
def NW:List Oper→Option (List Oper×Oper×Oper×Oper)
 | []=>none
 | [_]=>none
 | [_,_]=>none
 | o1::o2::o3::r=>match r with
  | []=>match o1.op with
   | .mapEntry _ _ _=>some ([],o1,o2,o3)
   | _=>none
  | _::_=>match NW (o2::o3::r) with
   | some (pre,q)=>some (o1::pre,q)
   | none=>none
theorem P_:∀ {l pre:List Oper} {o1 o2 o3:Oper},NW l=some (pre,o1,o2,o3)→l=pre++[o1,o2,o3]
 | [],_,_,_,_,h=>by cases h
 | [_],_,_,_,_,h=>by cases h
 | [_,_],_,_,_,_,h=>by cases h
 | a::b::c::r,pre,o1,o2,o3,h=>by
  simp only [NW] at h;split at h
  ·split at h
   ·cases h;rfl
   ·cases h
  ·split at h
   ·rename_i ah5 q hq;obtain ⟨q1,q2,q3⟩:=q;cases h;rw [P_ hq];rfl
   ·cases h
def afP (o1 o2 o3:Oper):Option (TypeId×Operand×Operand×Nat×Nat×Operand×Operand):=match o1.op,o2.op,o3.op with
 | .mapEntry t m k,.extract (.tmp a) 1,.entryStore _ m3 (.tmp b) x=>match o1.dst,o2.dst,o3.dst with
  | some d1,some d2,none=>match VD o1&&(VD o2&&(VD o3&&(Nat.beq a d1&&Nat.beq b d2))) with
   | true=>some (t,m,k,d1,d2,m3,x)
   | false=>none
  | _,_,_=>none
 | _,_,_=>none
def aco (B:Array Nat) (i:Nat):Nat→Bool
 | 0=>true
 | n+1=>bit B i n&&aco B i n
def RA (E:Env) (bJ:List CT) (ops:List Oper) (B:Array Nat) (id:Nat) (s:bL) (κ:bL→Option R):Option R:=
 match NW ops with
 | some (pre,o1,o2,o3)=>match afP o1 o2 o3 with
  | some (t,m,k,d1,d2,m3,x)=>match (sn ops B [(pre.length+2,[id])]&&(bit B (pre.length+1) pre.length&&aco B (pre.length+2) (pre.length+2)))&&((!Hq B (pre.length+1) d1 0 ops&&!Nat.beq d1 d2)&&(d1.blt s.nt&&d2.blt s.nt)) with
   | true=>match E.P.underlying t with
    | some (.map _ et)=>match zvT E.P et with
     | some (.d _)=>N9 E bJ ops B pre.length id t pre 0 s fun T=>afO E ops B pre.length id t m k m3 x d1 d2 T κ
     | _=>none
    | _=>none
   | false=>none
  | none=>none
 | none=>none
theorem dT.more {s s':fG} {x:Operand} {a:AV} (h:dT s x a) (l:XC s s'):dT s' x a:=fun hs=>h (hs.less l)
theorem WR {B:Array Nat} {i:Nat}:∀ {n:Nat},aco B i n=true→∀ j,j < n→bit B i j=true
 | 0,_,j,hj=>by omega
 | n+1,h,j,hj=>by
  simp only [aco,Bool.and_eq_true] at h;by_cases e:j=n
  ·rw [e];exact h.1
  ·exact WR h.2 j (by omega)
theorem RI {D:Nat→Bool} {H0:Hp} {id:Nat}:∀ {q:List RE},(∀ j e,eA q j=some e→e.up=[])→yi D H0 q id=H0 id
 | [],_=>rfl
 | e::r,h=>by
  have h1:=h r.length e (by simp [eA]);simp only [yi,h1,yh,List.any_nil,Bool.and_false];exact RI fun j e' hj=>h j e' (by
   have:=jq hj;simp only [eA];rw [if_neg (by omega)];exact hj)
theorem acp {D D':Nat→Bool} {N0:Nat}:∀ {q:List RE},(∀ j,j < q.length→D j=D' j)→kD D N0 q=kD D' N0 q
 | [],_=>rfl
 | e::r,h=>by
  funext id;simp only [kD];rw [acp (D':=D') fun j hj=>h j (by simp;omega),h r.length (by simp)]
theorem wU {e:RE} {r:List RE} {j:Nat} (h:j < r.length):eA (e::r) j=eA r j:=by
 simp only [eA];rw [if_neg (by omega)]
def Laid {i:Nat} (n:Nat) (y0:cG) (l lp:List (C i)):Prop:=lp=l∨∃ yz,lp=l++[yz]∧(get i yz).drop (n+1)=[y0]
theorem Yq {i n:Nat} {v:Ty} {z:v.dn} {p:C i→Bool} {l lp:List (C i)} (h:Laid n ⟨v,z⟩ l lp):m7 p (A0 i (n+1) v) z lp=m7 p (A0 i (n+1) v) z l:=by
 rcases h with rfl | ⟨yz,rfl,hz⟩
 ·rfl
 ·unfold m7;rw [List.find?_append];cases l.find? p with
  | some y=>rfl
  | none=>
   simp only [Option.none_or,List.find?_cons,List.find?_nil];cases p yz with
   | true=>simp [A0,hz]
   | false=>rfl
theorem acq {i n j:Nat} {kk:C j} {v:Ty} {z:v.dn} {l:List (C i)} (hdr:(zS i).drop (n+1)=[v]):
  g8 (zq false (cL ⟨v,z⟩) (l.map fun x=>c6 (n+1) (get i x)) ((l.findIdx? (gv i j (n+1) kk)).map (0+·))) (cL ⟨v,m7 (gv i j (n+1) kk) (A0 i (n+1) v) z l⟩):=by
 simp only [m7];rcases A1 (p:=gv i j (n+1) kk) (l:=l) with ⟨k1,k2⟩ | ⟨q,y,k1,k2,k3,k4⟩
 ·rw [k1,k2];exact (@g8.refl _)
 ·rw [k1,k3];have hd0:((get i y).drop (n+1)).map (·.t)=[v]:=by
   rw [List.map_drop,qd,hdr]
  obtain ⟨b,hb⟩:∃ b:v.dn,(get i y).drop (n+1)=[⟨v,b⟩]:=by
   match hg:(get i y).drop (n+1),hd0 with
   | [⟨t',b⟩],h0=>
    simp only [List.map_cons,List.map_nil,List.cons.injEq,and_true] at h0;subst h0;exact ⟨b,rfl⟩
  have m4:((l.map fun x=>c6 (n+1) (get i x)).getD (0+q) (.top,.top)).2=cL ⟨v,b⟩:=by
   simp [List.getD,k2,c6,hb]
  have m5:A0 i (n+1) v y=b:=by
   unfold A0;rw [hb];simp
  simp only [Option.map_some,zq,m4,m5];exact (@g8.refl _)
theorem aet {E:Env} {T:bL} {id:Nat} {t0:TypeId} {o:Oper} {y:cG} {kt0 et0:TypeId} {YO:cG} (ht0:E.P.underlying t0=some (.map kt0 et0)) (hz0:zvT E.P et0=some (.d YO)) (h:lkE E T id t0 o=some y):
  (∀ c,o.op≠.defer c)∧(∃ rv,dg E.P o T.st ⟨rv,[],[]⟩∧g8 rv (cL y))∧∃ i l n,aS T.H id=some (.dmap i l)∧I9 i=n+1∧∀ (lp:List (C i)) (jj st:Nat),Laid n YO l lp→
   ∃ rv,dg E.P o ⟨T.nt,T.N,T.st.tm,fun b9=>if b9=id then some (.G5 (lp.map fun x=>c6 (I9 i) (get i x)) jj st) else none⟩ ⟨rv,[],[]⟩∧g8 rv (cL y):=by
 unfold lkE at h;split at h
 ·rename_i t x k ho;split at h
  ·rename_i b9 cs kt et hx hk ht;split at h
   ·rename_i yz j kk bZ hz hkg;simp only [Bool.and_eq_true] at bZ;have e1:=Nat.eq_of_beq_eq_true bZ.1;have e2:=Nat.eq_of_beq_eq_true bZ.2;subst e1 e2;rw [ht] at ht0;cases ht0;rw [hz] at hz0;cases hz0;split at h
    ·rename_i i l R1 hl;split at h
     ·cases h
     ·rename_i n hn;split at h
      ·rename_i N_ v _ hdr;split at h
       ·rename_i v' z WS;split at h
        ·rename_i e _;subst e;cases h;obtain ⟨fs,C6,_,_⟩:=I5 R1;have Lz:=I6 R1 kk;have hyz:YO=⟨v',z⟩:=by
          simp only [td] at WS;split at WS
          ·split at WS
           ·exact Option.some.inj WS
           ·cases WS
          ·cases WS
         have SV:zvA E.P et0=some (cL ⟨v',z⟩):=by
          have:=(Oa hz T.H T.N).1;simp only [TA.av] at this;rw [this,hyz]
         have key:∀ (s:fG) (lp:List (C i)) (B:jz),s.tm=T.st.tm→s.nt=T.nt→s.H b9=some B→eg B (.map (lp.map fun x=>c6 (n+1) (get i x)))→m7 (gv i j (n+1) kk) (A0 i (n+1) v') z lp=m7 (gv i j (n+1) kk) (A0 i (n+1) v') z l→
           ∃ rv,dg E.P o s ⟨rv,[],[]⟩∧g8 rv (cL ⟨v',m7 (gv i j (n+1) kk) (A0 i (n+1) v') z l⟩):=by
          intro s lp B htm hnt hB hBi hg;have hf:=A2 N_ R1 kk lp 0;refine ⟨zq false (cL ⟨v',z⟩) (lp.map fun x=>c6 (n+1) (get i x)) ((lp.findIdx? (gv i j (n+1) kk)).map (0+·)),b7 fun {w F O μ K ft act} hs=>?_,?_⟩
          ·have H3:SR w F O μ K ⟨s.nt,s.N,s.tm,s.H.c_ [(b9,some (.map (lp.map fun x=>c6 (n+1) (get i x))))]⟩ ft act:=by
            refine ⟨hs.hr.imp fun BP b' ck=>?_,hs.nt,hs.tm,hs.df⟩;simp only [Hp.c_] at ck;by_cases e:BP=b9
            ·rw [if_pos e] at ck;cases ck;exact ⟨B,by rw [e];exact hB,hBi⟩
            ·rw [if_neg e] at ck;exact ⟨b',ck,eg.refl _⟩
           have hvl:∀ (xx:Operand),∀ {w F O μ K ft act},SR w F O μ K ⟨s.nt,s.N,s.tm,s.H.c_ [(b9,some (.map (lp.map fun x=>c6 (n+1) (get i x))))]⟩ ft act→VR w F μ K ((T.val xx).av T.H) (act.eval xx):=by
            intro xx w F O μ K ft act hs;cases xx with
            | tmp q=>
             have:=hs.tm q;simp only [htm] at this;exact this
            | const u=>simp only [bL.val,Nd];exact J0 u
            | func f=>simp only [bL.val,TA.av,di];exact .fn _ [] [] [] [] rfl rfl (fun i h=>by cases h) (fun i h=>by cases h)
            | global g=>simp only [bL.val,TA.av];exact .top _
           refine Qa (s:=⟨s.nt,s.N,s.tm,s.H.c_ [(b9,some (.map (lp.map fun x=>c6 (n+1) (get i x))))]⟩) ho (id:=b9) (ka:=cL ⟨.st j,kk⟩) (fun hs=>?_) ?_ (fun hs=>?_) ht C6 Lz.1 hf SV H3
           ·have:=hvl x hs;rw [hx] at this;simpa only [TA.av] using this
           ·simp only [Hp.c_,if_true]
           ·have:=hvl k hs;rw [hk] at this;exact L1 hkg T.H this
          ·rw [← hg];exact acq hdr
         refine ⟨(fun c hc=>by rw [ho] at hc;cases hc),?_,i,l,n,hl,hn,fun lp jj st hlp=>?_⟩
         ·refine key T.st l _ rfl rfl (dx hl) ?_ rfl;simp only [aX.du,hn];exact eg.refl _
         ·refine key _ lp _ rfl rfl (by simp only [if_true];rfl) ?_ (Yq (hyz▸hlp));rw [hn];exact aaD _ _ _
        ·cases h
       ·cases h
      ·cases h
    ·cases h
   ·cases h
  ·cases h
 ·cases h
theorem acr {p id i:Nat} (h:i < p):wq [(p,[id]),(p+2,[id])] i=[]∧wq [(p+2,[id])] i=[]:=by
 simp only [wq,cb (show ¬ i=p by omega),cb (show ¬ i=p+2 by omega),cb (show ¬ p=i by omega),cb (show ¬ p+2=i by omega),and_self]
structure aaE (P:Program) (ops:List Oper) (B:Array Nat) (p id:Nat) (y0:cG) (s:bL) (q:List RE) (e:RE) (o:Oper):Prop where
 up:e.up=[]
 one:PZ P ops B [(p+2,[id])] s.st q e o
 two:inc B q.length p=true→∀ (i n:Nat) (l lp:List (C i)) (jj st:Nat),aS s.H id=some (.dmap i l)→I9 i=n+1→Laid n y0 l lp→
  PZ P ops B [(p+2,[id])] ⟨s.nt,s.N,s.st.tm,s.st.H.c_ [(id,some (.G5 (lp.map fun x=>c6 (I9 i) (get i x)) jj st))]⟩ q e o
theorem TV {E:Env} {bJ:List CT} {ops:List Oper} {B:Array Nat} {p id:Nat} {t0 kt0 et0:TypeId} {YO:cG} {s:bL} {κ:bL→Option R} {z:R} (hE:px E bJ) (wo:∀ i o,ops[i]?=some o→B.getD i 0 < 2 ^ i) (ht0:E.P.underlying t0=some (.map kt0 et0)) (hz0:zvT E.P et0=some (.d YO))
  (PB:∀ i,i < p→inc B i (p+2)=false):∀ {l:List Oper} {T:bL} {q:List RE},
  N9 E bJ ops B p id t0 l q.length T κ=some z→Inv s ops [(p,[id]),(p+2,[id])] T q→(∀ j e,eA q j=some e→e.up=[])→T.H=s.H→(∀ i o,l[i]?=some o→ops[q.length+i]?=some o)→q.length+l.length=p→
  ∃ rs Tf,κ Tf=some z∧Inv s ops [(p,[id]),(p+2,[id])] Tf rs∧rs.length=p∧Yf q rs∧(∀ j e,eA rs j=some e→e.up=[])∧Tf.H=s.H∧∀ i o,l[i]?=some o→∃ e q',eA rs (q.length+i)=some e∧q'.length=q.length+i∧Yf q' rs∧aaE E.P ops B p id YO s q' e o
 | [],T,q,h,hi,UU,hTH,hl,hp=>by
  simp only [N9] at h;exact ⟨q,T,h,hi,by simpa using hp,⟨[],rfl⟩,UU,hTH,fun i o ho=>by simp at ho⟩
 | o::rest,T,q,h,hi,UU,hTH,hl,hp=>by
  simp only [N9] at h;have dY:q.length < p:=by simp at hp;omega
  have ho0:=hl 0 o (by simp);have VE:∀ (D:Nat→Bool) (H0:Hp) (b9:Nat),yi D H0 q b9=H0 b9:=fun D H0 b9=>RI UU;have fin:∀ (e:RE) (T':bL),N9 E bJ ops B p id t0 rest (q.length+1) T' κ=some z→Inv s ops [(p,[id]),(p+2,[id])] T' (e::q)→T'.H=s.H→aaE E.P ops B p id YO s q e o→
    ∃ rs Tf,κ Tf=some z∧Inv s ops [(p,[id]),(p+2,[id])] Tf rs∧rs.length=p∧Yf q rs∧(∀ j e,eA rs j=some e→e.up=[])∧Tf.H=s.H∧∀ i o',(o::rest)[i]?=some o'→∃ e q',eA rs (q.length+i)=some e∧q'.length=q.length+i∧Yf q' rs∧aaE E.P ops B p id YO s q' e o':=by
   intro e T' h1 h2 h4 h3;obtain ⟨rs,Tf,k1,k2,k3,k4,k6,k9,k5⟩:=TV hE wo ht0 hz0 PB (q:=e::q) h1 h2 (fun j e' hj=>by
    simp only [eA] at hj;split at hj
    ·cases hj;exact h3.up
    ·exact UU j e' hj) h4 (fun i o' I_=>by
    have:=hl (i+1) o' (by simpa using I_);rwa [show (e::q).length+i=q.length+(i+1) by simp;omega]) (by simp at hp ⊢;omega)
   obtain ⟨k7,k8⟩:=TK k4;refine ⟨rs,Tf,k1,k2,k3,k7,k6,k9,fun i o' I_=>?_⟩;cases i with
   | zero=>
    simp only [List.getElem?_cons_zero,Option.some.injEq] at I_;subst I_;exact ⟨e,q,k8,rfl,k7,h3⟩
   | succ i=>
    obtain ⟨e',q',m1,m2,m3,m4⟩:=k5 i o' (by simpa using I_);have e1:(e::q).length+i=q.length+(i+1):=by simp;omega
    exact ⟨e',q',e1▸m1,e1▸m2,m3,m4⟩
  split at h
  ·rename_i hdg;simp only [Bool.and_eq_true] at hdg;obtain ⟨hd,hg⟩:=hdg;have hgn:o.guard=none:=by
    unfold VD at hg;cases e:o.guard with
    | none=>rfl
    | some _=>rw [e] at hg;cases hg
   have hw:∀ {w F O μ K ft a} {M:fG},SR w F O μ K M ft a→Region.wanted o (yielded ⟨ops⟩ a.tmps)=true:=fun _=>by unfold Region.wanted;rw [hgn]
   split at h
   ·split at h
    ·rename_i y hy;obtain ⟨zg,⟨rv,k1,k2⟩,i,l,n,k3,k4,k5⟩:=aet ht0 hz0 hy;have hi1:Inv s ops [(p+2,[id])] T q:=⟨hi.ok,hi.nt,hi.N,hi.tm,hi.H,fun j e hj=>by
      obtain ⟨o',m1,m2,_⟩:=hi.zP j e hj;exact ⟨o',m1,m2,fun b9 bZ=>by rw [UU j e hj] at bZ;cases bZ⟩⟩
     have mT:=hi1.WD (B:=B) wo;have mH:=hi1.WE (B:=B) wo;refine fin ⟨o.dst,cL y,[],T.N,0⟩ _ h ?_ (by rw [I0];exact hTH) ?_
     ·refine ⟨zM hi.ok (by simp only [TA.wf]),by rw [Vr];exact hi.nt,⟨hi.N,by rw [aar];rfl⟩,fun t=>?_,fun b9=>?_,fun j e hj=>?_⟩
      ·rw [Vs,I0];simp only [zO,Bool.true_and];cases Om o.dst t with
       | true=>simp only [TA.av]
       | false=>exact hi.tm t
      ·rw [I0];simp only [yi,yh,List.any_nil,Bool.and_false];exact hi.H b9
      ·simp only [eA] at hj;split at hj
       ·rename_i e1;cases hj;exact ⟨o,e1▸ho0,rfl,fun b9 bZ=>by cases bZ⟩
       ·exact hi.zP j e hj
     ·have u9:(match o.dst with | some t=>t.blt s.st.nt | none=>true)=true:=by
       show oL ⟨s.nt,s.N,s.tm,s.H⟩ o.dst=true;cases hdd:o.dst with
       | none=>rfl
       | some t=>rw [hdd] at hd;simp only [oL] at hd ⊢;rw [← hi.nt];exact hd
      refine ⟨rfl,⟨rfl,u9,(fun b9 bZ=>by cases bZ),_,hi.nt,mT,mH,.inr ⟨fun hs=>hw hs,rv,[],k1,k2,fun b9 bZ=>(by cases bZ),fun b9 b' bZ=>(by cases bZ),zg⟩⟩,fun B2 i' n' l' lp jj st q1 q2 q3=>?_⟩;have Pq:aS (T.mask ops B [(p+2,[id])] q.length).H id=aS T.H id:=by
       rcases nL T.H id (Lu B q.length [(p+2,[id])]) with ⟨m1,x,_⟩ | ⟨_,m2⟩
       ·simp only [Lu,PB q.length dY] at m1;cases m1
       ·exact m2
      rw [Pq,hTH,q1] at k3;cases k3;obtain ⟨rv2,m1,m2⟩:=k5 lp jj st (by rw [k4] at q2;cases q2;exact q3);refine ⟨rfl,u9,(fun b9 bZ=>by cases bZ),⟨T.nt,T.N,(T.mask ops B [(p+2,[id])] q.length).st.tm,fun b9=>if b9=id then some (.G5 (lp.map fun x=>c6 (I9 i) (get i x)) jj st) else none⟩,hi.nt,mT,fun b9=>?_,.inr ⟨fun hs=>hw hs,rv2,[],m1,m2,fun b9 bZ=>(by cases bZ),fun b9 b' bZ=>(by cases bZ),zg⟩⟩;by_cases e:b9=id
      ·refine .inr ⟨by simp only [FJ,PB q.length dY,Bool.and_false,Bool.or_false],?_⟩;rw [VE];simp only [e,if_true,Hp.c_]
      ·exact .inl (by simp only [if_neg e])
    ·cases h
   ·obtain ⟨e,T',h1,h2,h3,h4⟩:=TL hE wo hi ho0 hd hw h;obtain ⟨t1,t2⟩:=acr (id:=id) dY;have aaF:e.up=[]:=by
     have:=h3.tou;rw [t1] at this;cases hu:e.up with
     | nil=>rfl
     | cons a b=>exact absurd (this a.1 (by rw [hu];simp)) (by simp)
    obtain ⟨M,c1,c2,c3,c4⟩:=h3.run;refine fin e T' h1 h2 ((h4 t1).trans hTH) ⟨aaF,⟨h3.d,h3.ok,(fun b9 bZ=>by rw [aaF] at bZ;cases bZ),M,c1,c2,fun b9=>?_,?_⟩,fun B2 i n l' lp jj st q1 q2 q3=>⟨h3.d,h3.ok,(fun b9 bZ=>by rw [aaF] at bZ;cases bZ),M,c1,c2,fun b9=>?_,?_⟩⟩
    ·rcases c3 b9 with e1 | ⟨e1,e2⟩
     ·exact .inl e1
     ·refine .inr ⟨?_,e2⟩;simp only [FJ,Bool.or_eq_false_iff] at e1 ⊢;exact e1.2
    ·rcases c4 with ⟨a1,a2⟩ | ⟨a1,rv,Lv,a2,a3,a4,a5,a6⟩
     ·exact .inl ⟨a1,a2⟩
     ·exact .inr ⟨a1,rv,Lv,a2,a3,a4,(fun b9 b' bZ=>by rw [aaF] at bZ;cases bZ),a6⟩
    ·rcases c3 b9 with e1 | ⟨e1,e2⟩
     ·exact .inl e1
     ·simp only [FJ,Bool.or_eq_false_iff] at e1;have oV:b9≠id:=fun e=>by
       subst e;have:=e1.1;simp [B2] at this
      refine .inr ⟨by simp only [FJ,Bool.or_eq_false_iff];exact e1.2,?_⟩;rw [e2,VE,VE];simp only [Hp.c_,if_neg oV]
    ·rcases c4 with ⟨a1,a2⟩ | ⟨a1,rv,Lv,a2,a3,a4,a5,a6⟩
     ·exact .inl ⟨a1,a2⟩
     ·exact .inr ⟨a1,rv,Lv,a2,a3,a4,(fun b9 b' bZ=>by rw [aaF] at bZ;cases bZ),a6⟩
  ·cases h
def afQ {α:Type} (l:List α) (y:α):Option Nat→List α
 | none=>l++[y]
 | some _=>l
theorem Qb {B:Array Nat} {i t:Nat}:∀ {l:List Oper} {j:Nat},(∀ q,q < l.length→inc B i (j+q)=false)→Hq B i t j l=false
 | [],_,_=>rfl
 | o::r,j,h=>by
  simp only [Hq,h 0 (by simp),Bool.and_false,Bool.false_or];have h0:=h 0 (by simp);rw [Nat.add_zero] at h0;rw [h0,Bool.and_false,Bool.false_or];exact Qb fun q hq=>by
   have:=h (q+1) (by simp;omega);rwa [show j+1+q=j+(q+1) by omega]
theorem WT {x y:cG} (ht:y.t=x.t) (h:Yr x y=true):x=y:=by
 obtain ⟨t,a⟩:=x;obtain ⟨u,b⟩:=y;simp only at ht;subst ht;cases u with
 | int k=>
  have:a=b:=LawfulBEq.eq_of_beq (α:=Int) h;rw [this]
 | str=>
  have:a=b:=LawfulBEq.eq_of_beq (α:=List UInt8) h;rw [this]
 | _=>simp [Yr] at h
theorem WU:∀ {l m:List cG},m.map (·.t)=l.map (·.t)→RJ l m=true→l=m
 | [],[],_,_=>rfl
 | [],_::_,h,_=>by simp at h
 | _::_,[],h,_=>by simp at h
 | [x],[y],h,hk=>by
  simp only [List.map_cons,List.map_nil,List.cons.injEq,and_true] at h;simp only [RJ] at hk;rw [WT h hk]
 | [_],_::_::_,h,_=>by simp at h
 | x::x2::l,y::m,h,hk=>by
  simp only [List.map_cons,List.cons.injEq] at h;cases m with
  | nil=>simp at h
  | cons y2 m=>
   simp only [RJ,Bool.and_eq_true] at hk;rw [WT h.1 hk.1,WU (l:=x2::l) (m:=y2::m) (by simpa using h.2) hk.2]
set_option maxHeartbeats 1000000 in
theorem Vy {E:Env} {bJ:List CT} {ops:List Oper} {B:Array Nat} {id:Nat} {s:bL} {κ:bL→Option R} {z:R} {m0 rid:Nat} {n0:N0} {ro:Option Nat} {a:Act} {Q:Exit→Act→World→Prop} (hE:px E bJ) (bF:E.P.follows .mixedOrders=true) (h:RA E bJ ops B id s κ=some z)
  (ho:s.ok) (hm:m0≤s.N) (hn:LX n0 s a) (hs:SR w F O μ (below s.N) s.st ft a) (hk:∀ s' a' w' F' O' aZ bX,κ s'=some z→tL w F O μ m0 n0 s' a' w' F' O' aZ bX→Q .normal a' w'):(Code.region rid ⟨ops⟩ true).wpIn (Wr ro) 0 E.P Q a w:=by
 unfold RA at h;split at h
 case h_2=>cases h
 rename_i pre o1 o2 o3 hsp;have TT:=P_ hsp;split at h
 case h_2=>cases h
 rename_i t m k d1 d2 m3 x Ko;split at h
 case h_2=>cases h
 rename_i afR;simp only [Bool.and_eq_true,Bool.not_eq_true'] at afR;obtain ⟨⟨aas,VJ,Ue⟩,⟨ahF,afS⟩,ahG,ahH⟩:=afR;have afS:=Nat.ne_of_beq_eq_false afS;split at h
 case h_2=>cases h
 rename_i kt et ht;split at h
 case h_2=>cases h
 rename_i YO hzt;have aeu:(o1.op=.mapEntry t m k∧o1.dst=some d1∧o1.guard=none)∧(o2.op=.extract (.tmp d1) 1∧o2.dst=some d2∧o2.guard=none)∧(∃ t',o3.op=.entryStore t' m3 (.tmp d2) x)∧o3.dst=none∧o3.guard=none:=by
  unfold afP at Ko;split at Ko
  ·rename_i ho1 YG ho3;split at Ko
   ·rename_i e1 e2 e3;split at Ko
    ·rename_i hg;simp only [Bool.and_eq_true] at hg;obtain ⟨g1,g2,g3,g4,g5⟩:=hg;have g4:=Nat.eq_of_beq_eq_true g4;have g5:=Nat.eq_of_beq_eq_true g5;subst g4 g5;simp only [Option.some.injEq,Prod.mk.injEq] at Ko;obtain ⟨rfl,rfl,rfl,rfl,rfl,rfl,rfl⟩:=Ko;have gd:∀ o:Oper,VD o=true→o.guard=none:=fun o ho=>by
      unfold VD at ho;cases e:o.guard with
      | none=>rfl
      | some _=>rw [e] at ho;cases ho
     exact ⟨⟨ho1,e1,gd _ g1⟩,⟨YG,e2,gd _ g2⟩,⟨_,ho3⟩,e3,gd _ g3⟩
    ·cases Ko
   ·cases Ko
  ·cases Ko
 clear Ko;obtain ⟨⟨ho1,aaG,Yz⟩,⟨YG,aaH,VN⟩,⟨t',ho3⟩,aaI,hg3⟩:=aeu;generalize hp:pre.length=p at *;have hlen:ops.length=p+3:=by rw [TT];simp [hp]
 have ab7:=aas;simp only [sn,Bool.and_eq_true] at ab7;have hB:∀ i o,ops[i]?=some o→B.getD i 0 < 2 ^ i:=fun i o Kg=>by
  have:=(IW ab7.1 i o Kg).2.1;rwa [Nat.zero_add] at this
 have at1:ops[p]?=some o1:=by rw [TT,List.getElem?_append_right (by omega),hp];simp
 have at2:ops[p+1]?=some o2:=by rw [TT,List.getElem?_append_right (by omega),hp];simp
 have at3:ops[p+2]?=some o3:=by rw [TT,List.getElem?_append_right (by omega),hp];simp
 have nG:∀ j,j < p+2→bit B (p+2) j=true:=WR Ue;have afT:∀ j,j < p+3→inc B (p+2) j=false:=fun j hj=>by
  simp only [inc,Bool.and_eq_false_iff,Bool.not_eq_false'];by_cases e:j=p+2
  ·exact .inl (.inl (by rw [e];exact Nat.beq_refl _))
  ·exact .inl (.inr (nG j (by omega)))
 have afU:∀ i,i < p→inc B i (p+2)=false:=fun i hi=>by
  simp only [inc,Bool.and_eq_false_iff,Bool.not_eq_false'];exact .inr (nG i (by omega))
 have aeg:Inv s ops [(p,[id]),(p+2,[id])] s []:=⟨ho,rfl,rfl,fun t=>rfl,fun id=>rfl,fun j e hj=>by cases hj⟩;obtain ⟨q,T,Ho,Eu,HA,_,UU,hTH,P0⟩:=TV hE hB ht hzt afU (q:=[]) h aeg (fun j e hj=>by cases hj) rfl (fun i o Kg=>by
  simp only [List.length_nil,Nat.zero_add];rw [TT,List.getElem?_append_left (List.getElem?_eq_some_iff.1 Kg).1];exact Kg) (by simpa using hp)
 simp only [List.length_nil,Nat.zero_add] at P0;unfold afO at Ho;split at Ho
 case h_2=>cases Ho
 rename_i b9 cs kt' et' hvm hvk ht2;rw [ht] at ht2;cases ht2;split at Ho
 case h_2=>cases Ho
 rename_i yz1 j kk bZ SV hkg;have bZ:=Nat.eq_of_beq_eq_true bZ;subst bZ;rw [hzt] at SV;cases SV;split at Ho
 case h_2=>cases Ho
 rename_i i l sB R1 hl ahI;split at Ho
 case h_2=>cases Ho
 rename_i n aev Yy;have aev:=Nat.eq_of_beq_eq_true aev;subst aev;split at Ho
 case h_2=>cases Ho
 rename_i N_ v _ hdr;split at Ho
 case h_2=>cases Ho
 rename_i yz y0 hlz hlx;split at Ho
 case h_2=>cases Ho
 rename_i afV yf0 hbz hby;obtain ⟨yzz,hyc⟩:∃ yc:C i,yc=afV:=⟨afV,rfl⟩;subst hyc;obtain ⟨y,hyc⟩:∃ yc:C i,yc=yf0:=⟨yf0,rfl⟩;subst hyc;have hyz:yz=YO:=by
  simp only [td] at hlz;split at hlz
  ·split at hlz
   ·exact (Option.some.inj hlz).symm
   ·cases hlz
  ·cases hlz
 subst hyz;obtain ⟨fs,C6,_,_⟩:=I5 R1;have Lz:=I6 R1 kk;have hza:zvA E.P et=some (cL yz):=by
  have:=(Oa hzt T.H T.N).1;simpa only [TA.av] using this
 obtain ⟨_,ahJ,_⟩:=ik hlz;obtain ⟨_,ahK,ahL⟩:=ik hlx;have hjl:(get j kk).length=n+1:=by
  have h1:=congrArg List.length (qd j kk);have h2:=congrArg List.length N_;have h3:=congrArg List.length (qd i y);have h4:=congrArg List.length (show get i y=get j kk++[y0] from eU hby);simp at h1 h2 h3 h4;omega
 have pk:∀ (yy:C i) (q0:cG),get i yy=get j kk++[q0]→c6 (n+1) (get i yy)=(cL ⟨.st j,kk⟩,cL q0):=fun yy q0 e=>by
  rw [e,Kq];simp only [c6,← hjl,List.take_left,List.drop_left]
 have hpz:=pk yzz yz (eU hbz);have hpy:=pk y y0 (eU hby);obtain ⟨lA,hlA⟩:∃ lA,lA=l.map fun x=>c6 (n+1) (get i x):=⟨_,rfl⟩;obtain ⟨r,hr⟩:∃ r,r=l.findIdx? (gv i j (n+1) kk):=⟨_,rfl⟩;have hf:kV (cL ⟨.st j,kk⟩) lA 0=some r:=by
  have:=A2 N_ R1 kk l 0;rw [← hlA,← hr] at this;rw [this];cases r<;>simp
 have hka:∀ jj,r=some jj→(lA.getD jj (.top,.top)).1=cL ⟨.st j,kk⟩∧jj < l.length:=fun jj e=>by
  rw [hr] at e;obtain ⟨h1,h2,_⟩:=List.findIdx?_eq_some_iff_getElem.1 e;refine ⟨?_,h1⟩;have h3:=WU (by rw [WV N_,qd]) h2;rw [hlA];have e2:((l.map fun x=>c6 (n+1) (get i x)).getD jj (.top,.top)).1=.agg (((get i l[jj]).take (n+1)).map cL):=by
   simp [List.getD,h1,c6]
  rw [e2,Kq,h3]
 obtain ⟨lp,hlp⟩:∃ lp:List (C i),lp=afQ l yzz r:=⟨_,rfl⟩;have afW:Laid n yz l lp:=by
  rw [hlp];cases r with
  | some _=>exact .inl rfl
  | none=>
   refine .inr ⟨yzz,rfl,?_⟩;rw [show get i yzz=get j kk++[yz] from eU hbz,← hjl,List.drop_left]
 have Ko:FL lA (cL ⟨.st j,kk⟩) (cL yz) r=lp.map fun x=>c6 (n+1) (get i x):=by
  rw [hlp,hlA];cases r<;>simp [FL,afQ,hpz]
 have afX:(FL lA (cL ⟨.st j,kk⟩) (cL yz) r).set (C7 lA r) (((FL lA (cL ⟨.st j,kk⟩) (cL yz) r).getD (C7 lA r) (.top,.top)).1,cL y0)=(oM (gv i j (n+1) kk) l y).map fun x=>c6 (n+1) (get i x):=by
  rw [Kr hpy,← hr,← hlA];cases r with
  | none=>simp [FL,C7,pn,List.getD]
  | some jj=>simp only [FL,C7,pn,(hka jj rfl).1]
 obtain ⟨acs,acZ⟩:∃ lf,lf=(oM (gv i j (n+1) kk) l y).map fun x=>c6 (n+1) (get i x):=⟨_,rfl⟩;rw [← acZ] at afX;have hsH:s.st.H sB=some (.map lA):=by
  have h9:s.st.H sB=some (.map (l.map fun x=>c6 (I9 i) (get i x))):=dx (by rw [← hTH];exact hl);rw [h9,Yy,hlA]
 have VE:∀ (D:Nat→Bool) (H0:Hp) (b9:Nat),yi D H0 q b9=H0 b9:=fun D H0 b9=>RI UU;have ac0:Inv s ops [(p+2,[sB])] T q:=⟨Eu.ok,Eu.nt,Eu.N,Eu.tm,Eu.H,fun j e hj=>by
  obtain ⟨o',m1,m2,_⟩:=Eu.zP j e hj;exact ⟨o',m1,m2,fun b9 bZ=>by rw [UU j e hj] at bZ;cases bZ⟩⟩
 let Ys:RE:=⟨none,.lit undef,[(sB,some (.map acs))],T.N,0⟩
 let rs:AV→AV→List RE:=fun v1 v2=>Ys::⟨some d2,v2,[],T.N,0⟩::⟨some d1,v1,[],T.N,0⟩::q
 have afY:∀ v1 v2,(rs v1 v2).length=p+3:=fun v1 v2=>by simp [rs,HA]
 have wfr:∀ v1 v2,YM s.N (rs v1 v2) T.N:=fun v1 v2=>⟨⟨⟨Eu.N,rfl⟩,rfl⟩,rfl⟩;have afZ:∀ v1 v2 i',i' < p→eA (rs v1 v2) i'=eA q i':=fun v1 v2 i' hi=>by
  simp only [rs];rw [wU (by simp;omega),wU (by simp;omega),wU (by omega)]
 have aew:∀ v1 v2,eA (rs v1 v2) p=some ⟨some d1,v1,[],T.N,0⟩:=fun v1 v2=>by
  simp only [rs];rw [wU (by simp;omega),wU (by simp;omega)];simp [eA,HA]
 have af0:∀ v1 v2,eA (rs v1 v2) (p+1)=some ⟨some d2,v2,[],T.N,0⟩:=fun v1 v2=>by
  simp only [rs];rw [wU (by simp;omega)];simp [eA,HA]
 have af1:∀ v1 v2,eA (rs v1 v2) (p+2)=some Ys:=fun v1 v2=>by
  simp [rs,eA,HA]
 have aex:∀ v1 v2 (D:Nat→Bool) (H0:Hp) b9,D (p+2)=false→yi D H0 (rs v1 v2) b9=H0 b9:=fun v1 v2 D H0 b9 hD=>by
  simp only [rs,yi,List.length_cons,HA,hD,Bool.false_and,yh,List.any_nil,Bool.and_false];exact VE _ _ _
 have acu:∀ v1 v2 q',Yf q' q→Yf q' (rs v1 v2):=fun v1 v2 q' ⟨u,e⟩=>⟨Ys::⟨some d2,v2,[],T.N,0⟩::⟨some d1,v1,[],T.N,0⟩::u,by simp only [rs,e,List.cons_append]⟩;have af2:∀ j',wq [(p+2,[sB])] j'=if j'=p+2 then [sB] else []:=fun j'=>by
  simp only [wq];by_cases e:j'=p+2
  ·subst e;simp
  ·rw [if_neg e]
   first
    | rw [cb e]
    | rw [cb (fun h=>e h.symm)]
 have wtd:∀ {o:Oper} {a':Act},o.guard=none→Region.wanted o (yielded ⟨ops⟩ a'.tmps)=true:=fun hg=>by unfold Region.wanted;rw [hg]
 let Tf:bL:=⟨T.nt,T.N,(d1,.top)::(d2,.top)::T.tm,cA T.H [(sB,some (.dmap i (oM (gv i j (n+1) kk) l y)))]⟩
 have Ho:κ Tf=some z:=Ho;have jx:Sub T.H Tf.H T.N:=B6 hl rfl rfl;have af3:Tf.ok:=by
  refine ⟨fun t=>?_,fun id l' BM=>?_⟩
  ·show (look ((d1,.top)::(d2,.top)::T.tm) t).wf Tf.H T.N;simp only [look];cases Nat.beq t d1 with
   | true=>simp only [TA.wf]
   | false=>
    cases Nat.beq t d2 with
    | true=>simp only [TA.wf]
    | false=>exact (jB jx (Nat.le_refl _) _ (Eu.ok.tm t)).2
  ·have BM:aS (cA T.H [(sB,some (.dmap i (oM (gv i j (n+1) kk) l y)))]) id=some l':=BM;rw [pt] at BM;split at BM
   ·cases BM;simp only [aX.refs,hU]
   ·exact (g0 jx (Nat.le_refl _) _ (Eu.ok.H id l' BM)).2
 have hsN:s.N≤T.N:=by
  have key:∀ {q:List RE} {N:Nat},YM s.N q N→s.N≤N:=by
   intro q
   induction q with
   | nil=>intro N h;exact Nat.le_of_eq h.symm
   | cons x q ih=>intro N h;have:=ih h.1;have:=h.2;omega
  exact key Eu.N
 have ahM:∀ v1 v2 (H0:Hp),(∀ b9,b9≠sB→H0 b9=s.st.H b9)→∀ w' F' O' aZ bX a',a'.defers=a.defers→SR w' F' O' aZ (below T.N) ⟨s.nt,T.N,zO (fun _=>true) s.st.tm (rs v1 v2),yi (fun _=>true) H0 (rs v1 v2)⟩ bX a'→Fr w F O μ (below m0) w' F' O' aZ→Q .normal a' w':=by
  intro v1 v2 H0 hH0 w' F' O' aZ bX a' sy fJ ym;refine hk Tf a' w' F' O' aZ bX Ho ⟨af3,Nat.le_trans hm hsN,⟨Eu.nt.trans hn.1,by rw [sy];exact hn.2⟩,⟨?_,?_,fun t=>?_,fJ.df⟩,ym⟩
  ·have e:(yi (fun _=>true) H0 (rs v1 v2))=sx Tf.H:=by
    funext id;simp only [rs,yi,Bool.true_and,yh,List.any_cons,List.any_nil,Bool.or_false,Ys];by_cases e:id=sB
    ·subst e;simp only [Nat.beq_refl,Hp.c_,if_true];rw [J2 (H:=Tf.H) (show aS Tf.H id=some (.dmap i (oM (gv i j (n+1) kk) l y)) by simp only [Tf];rw [pt,if_pos rfl]) rfl];simp only [aX.du,Yy,acZ]
    ·rw [cb (fun h=>e h.symm)];simp only;rw [VE,hH0 id e];have e1:aS Tf.H id=aS T.H id:=by simp only [Tf];rw [pt,if_neg e]
     show sx s.H id=sx Tf.H id;rw [← hTH];unfold sx;rw [e1];cases hb:aS T.H id with
     | none=>rfl
     | some b=>
      simp only [Option.bind_some];cases hv:b.T5 with
      | false=>rfl
      | true=>
       simp only;rw [p4 jx (Eu.ok.H id _ hb)]
   have:=fJ.hr;simp only [e] at this;exact this
  ·exact fJ.nt.trans Eu.nt.symm
  ·have:=fJ.tm t;simp only [rs,zO,Bool.true_and,Ys,Om] at this;show VR w' F' aZ _ ((look ((d1,.top)::(d2,.top)::T.tm) t).av Tf.H) _;simp only [look];cases e1:Nat.beq t d1 with
   | true=>simp only [TA.av];exact .top _
   | false=>
    cases e2:Nat.beq t d2 with
    | true=>simp only [TA.av];exact .top _
    | false=>
     rw [cb (fun h=>Nat.ne_of_beq_eq_false e2 h.symm),cb (fun h=>Nat.ne_of_beq_eq_false e1 h.symm)] at this;simp only at this;rw [← Eu.tm t] at this;simp only;rw [(jB jx (Nat.le_refl _) _ (Eu.ok.tm t)).1];exact this
 have WW:∀ (s':fG) (q':List RE) (e:RE) (o:Oper) (Z:fG→Prop),s'.nt=s.nt→e.d=o.dst→(∀ b9,b9∈e.up.map (·.1)→b9∈wq [(p+2,[sB])] q'.length)→Z ⟨s.nt,0,fun _=>.top,fun _=>none⟩→acO ops B [(p+2,[sB])] s' q' e o Z:=fun s' q' e o Z h0 h1 h2 h3=>
  ⟨h1,h2,⟨s.nt,0,fun _=>.top,fun _=>none⟩,h0.symm,fun _=>.inl rfl,fun _=>.inl rfl,h3⟩
 let X1:Nat→Bool:=fun i'=>Nat.beq i' p||(Nat.beq i' (p+1)||Nat.beq i' (p+2))
 let Φ1:(Nat→Bool)→Prop:=fun D=>D p=false∧D (p+1)=false∧D (p+2)=false
 have at0:∀ i' o,ops[i']?=some o→i' < p∧pre[i']?=some o∨i'=p∧o=o1∨i'=p+1∧o=o2∨i'=p+2∧o=o3:=fun i' o Kg=>by
  have dY:i' < ops.length:=(List.getElem?_eq_some_iff.1 Kg).1;rcases Nat.lt_or_ge i' p with e | e
  ·rw [TT,List.getElem?_append_left (by omega)] at Kg;exact .inl ⟨e,Kg⟩
  ·rcases (show i'=p∨i'=p+1∨i'=p+2 by omega) with e | e | e
   ·subst e;rw [at1] at Kg;exact .inr (.inl ⟨rfl,(Option.some.inj Kg).symm⟩)
   ·subst e;rw [at2] at Kg;exact .inr (.inr (.inl ⟨rfl,(Option.some.inj Kg).symm⟩))
   ·subst e;rw [at3] at Kg;exact .inr (.inr (.inr ⟨rfl,(Option.some.inj Kg).symm⟩))
 have emp:jr (Array.replicate ops.length false)=fun _=>false:=by
  funext j;simp only [jr];by_cases h:j < ops.length<;>simp [h]
 have eT:∀ q:List RE,zO (fun _=>false) s.st.tm q=s.st.tm:=fun q=>by
  induction q with
  | nil=>rfl
  | cons x q ih=>funext t;exact congrFun ih t
 have eH:∀ q:List RE,yi (fun _=>false) s.st.H q=s.st.H:=fun q=>by
  induction q with
  | nil=>rfl
  | cons x q ih=>funext t;exact congrFun ih t
 have eK:∀ q:List RE,kD (fun _=>false) s.N q=below s.N:=fun q=>by
  induction q with
  | nil=>rfl
  | cons x q ih=>funext t;simp [kD,ih]
 refine wpIn_region_any bF ?_;refine NT (s:=s.st) (rs:=rs .top .top) (N:=T.N) (m0:=m0) (X:=X1) (Φ:=Φ1) (Z:=fun i' M=>i'=p→M=(T.mask ops B [(p+2,[sB])] p).st) (w0:=w) (F0:=F) (O0:=O) (ZN:=μ) (ds0:=a.defers) (ro:=ro) aas (wfr _ _) hm (by rw [afY,hlen]) ?_ ?_ ?_ ?_ _ _ _ _ F O μ ft (by simp) (by
   unfold unl;simp [List.countP_replicate]) (by
   rw [show (⟨ops⟩:Array Oper).size=ops.length from rfl,emp];intro i hi;cases hi) ?_ (Fr.drew _) rfl (by
   rw [show (⟨ops⟩:Array Oper).size=ops.length from rfl,emp];exact ⟨rfl,rfl,rfl⟩)
 ·rintro D i' ⟨h1,h2,h3⟩ hX
  simp only [X1,Bool.or_eq_false_iff] at hX;have e1:=Nat.ne_of_beq_eq_false hX.1;have e2:=Nat.ne_of_beq_eq_false hX.2.1;have e3:=Nat.ne_of_beq_eq_false hX.2.2;simp only [Φ1,more];rw [if_neg (fun h=>e1 h.symm),if_neg (fun h=>e2 h.symm),if_neg (fun h=>e3 h.symm)];exact ⟨h1,h2,h3⟩
 ·intro i' o Kg;rcases at0 i' o Kg with ⟨e,Ui⟩ | ⟨rfl,rfl⟩ | ⟨rfl,rfl⟩ | ⟨rfl,rfl⟩
  ·obtain ⟨e',q',m1,m2,m3,m4⟩:=P0 i' o Ui;exact ⟨e',q',by rw [afZ _ _ _ e];exact m1,m2,acu _ _ _ m3,.inl ⟨by simp only [X1];rw [cb (by omega),cb (by omega),cb (by omega)];rfl,m4.one⟩⟩
  ·refine ⟨_,q,aew _ _,HA,acu _ _ _ ⟨[],rfl⟩,.inr ⟨by simp [X1],aaG.symm,(fun b9 bZ=>by cases bZ),_,Eu.nt,?_,?_,fun _=>rfl⟩⟩
   ·have:=ac0.WD (B:=B) hB;rw [HA] at this;rw [HA];exact this
   ·have:=ac0.WE (B:=B) hB;rw [HA] at this;rw [HA];exact this
  ·exact ⟨_,⟨some d1,.top,[],T.N,0⟩::q,af0 _ _,by simp [HA],⟨[Ys,⟨some d2,.top,[],T.N,0⟩],rfl⟩,.inr ⟨by simp [X1],WW _ _ _ _ _ rfl aaH.symm (fun b9 bZ=>by cases bZ) fun h=>by omega⟩⟩
  ·refine ⟨_,⟨some d2,.top,[],T.N,0⟩::⟨some d1,.top,[],T.N,0⟩::q,af1 _ _,by simp [HA],⟨[Ys],rfl⟩,.inr ⟨by simp [X1],WW _ _ _ _ _ rfl aaI.symm (fun b9 bZ=>?_) fun h=>by omega⟩⟩;simp only [Ys,List.map_cons,List.map_nil,List.mem_singleton] at bZ;rw [af2,if_pos (by simp [HA]),bZ];simp
 ·
  intro i' o M Kg hX hZ fuel listed a1 w1 F1 O1 Hz S3 fh hun LK hDi hBi Yg P2 fJ ym sy;rcases at0 i' o Kg with ⟨e,_⟩ | ⟨rfl,rfl⟩ | ⟨rfl,rfl⟩ | ⟨rfl,rfl⟩
  ·simp only [X1] at hX;rw [cb (by omega),cb (by omega),cb (by omega)] at hX;cases hX
  ·have hZ:=hZ rfl;subst hZ;unfold wpOpIn;have ahN:(⟨ops⟩:Array Oper)[i']?=some o:=by simpa using Kg
   rw [ahN];simp only [wtd Yz,if_true];refine TB (fun c hc=>by rw [ho1] at hc;cases hc) ?_;have hxm:dT (T.mask ops B [(i'+2,[sB])] i').st m (.mp sB):=fun {w F O μ K ft act} hs=>by have:=bY hvm hs;simpa only [TA.av] using this
   have hxk:dT (T.mask ops B [(i'+2,[sB])] i').st k (cL ⟨.st j,kk⟩):=fun {w F O μ K ft act} hs=>L1 hkg _ (hvk▸gu _ k hs);have hJH:(Js s.st (rs .top .top) (jr listed)).H sB=some (.map lA):=by
    show yi (jr listed) s.st.H (rs .top .top) sB=_;rw [aex _ _ _ _ _ Yg.2.2,hsH]
   obtain ⟨v0,st,w2,O2,EJ,kT,hhr,aey⟩:=Yt ho1 (hxm.more P2) hJH (hxk.more P2) hza (uq ahJ) Lz.2.1 ht C6 Lz.1 hf (fun jj e=>(hka jj e).1) fJ;unfold Oper.wp;rw [kT,Oper.upon_value,aaG]
   let s2:fG:=⟨s.nt,s.N,s.st.tm,s.st.H.c_ [(sB,some (.G5 (lp.map fun x=>c6 (I9 i) (get i x)) (C7 lA r) st))]⟩
   let v1:AV:=.ov [.top,.int .i64 (st:Nat)]
   let v2:AV:=.int .i64 (st:Nat)
   have hil:i' < listed.size:=by rw [fh,hlen];omega
   have hD':jr (listed.setIfInBounds i' true)=more (jr listed) i':=IX hil;have hDo:∀ q',q'≠i'→jr (listed.setIfInBounds i' true) q'=jr listed q':=fun q' hq=>by rw [hD'];simp only [more,if_neg hq]
   have af4:jr (listed.setIfInBounds i' true) i'=true:=by rw [hD'];simp [more]
   have ac1:s2.H sB=some (.G5 (lp.map fun x=>c6 (I9 i) (get i x)) (C7 lA r) st):=by simp [s2,Hp.c_]
   have af5:∀ q',q'≠sB→s2.H q'=s.st.H q':=fun q' hq=>by simp only [s2,Hp.c_,if_neg hq]
   have af6:d1 < a1.tmps.size:=by rw [fJ.nt];exact Nat.le_of_ble_eq_true ahG
   have eKK:kD (jr (listed.setIfInBounds i' true)) s2.N (rs v1 v2)=kD (jr listed) s.N (rs .top .top):=by
    funext id;rw [hD'];refine propext ((LY (aew v1 v2) id).trans ⟨fun h=>?_,fun h=>.inl h⟩);rcases h with h | ⟨h1,h2⟩
    ·exact h
    ·simp only at h1 h2;omega
   refine NT (s:=s2) (rs:=rs v1 v2) (N:=T.N) (m0:=m0) (X:=fun q'=>bit B i' q'||Nat.beq q' i') (Φ:=fun D=>∀ q',jr (listed.setIfInBounds i' true) q'=true→D q'=true) (Z:=fun _ _=>True) (w0:=w) (F0:=F) (O0:=O) (ZN:=μ) (ds0:=a.defers) (ro:=ro)
    aas (wfr _ _) hm (by rw [afY,hlen]) ?_ ?_ ?_ ?_ fuel _ _ w2 F1 O2 Hz EJ (by simp [fh]) (by have:=Ru hil hDi;omega) ?_ ?_ (ym.trans (aey.LH fun id (bZ:id < m0)=>Vp (show id < s.N by omega))) sy (fun _ h=>h)
   ·intro D q' hD _ q2 hq2;simp only [more];split
    ·rfl
    ·exact hD q2 hq2
   ·intro q' o' aez;rcases at0 q' o' aez with ⟨e,Ui⟩ | ⟨rfl,rfl⟩ | ⟨rfl,rfl⟩ | ⟨rfl,rfl⟩
    ·obtain ⟨e',q2,m1,m2,m3,m4⟩:=P0 q' o' Ui;refine ⟨e',q2,by rw [afZ _ _ _ e];exact m1,m2,acu _ _ _ m3,?_⟩;cases hb:bit B i' q' with
     | true=>exact .inr ⟨by simp,WW _ _ _ _ _ rfl m4.one.d (fun b9 bZ=>by rw [m4.up] at bZ;cases bZ) trivial⟩
     | false=>
      refine .inl ⟨by simp only [Bool.false_or];exact cb (by omega),?_⟩;have ahO:Laid n yz l lp:=afW;refine m4.two ?_ i n l lp (C7 lA r) st (by rw [← hTH];exact hl) Yy ahO;rw [m2];simp only [inc,cb (show ¬ q'=i' by omega),hb,Bool.not_false,Bool.true_and,Bool.and_true];cases Ue:bit B q' i' with
      | false=>rfl
      | true=>have:=B1 (hB q' o' aez) Ue;omega
    ·exact ⟨_,q,aew _ _,HA,acu _ _ _ ⟨[],rfl⟩,.inr ⟨by simp,WW _ _ _ _ _ rfl aaG.symm (fun b9 bZ=>by cases bZ) trivial⟩⟩
    ·refine ⟨_,⟨some d1,v1,[],T.N,0⟩::q,af0 _ _,by simp [HA],⟨[Ys,⟨some d2,v2,[],T.N,0⟩],rfl⟩,.inl ⟨?_,aaH.symm,?_,(fun b9 bZ=>by cases bZ),⟨s.nt,0,fun t=>if t=d1 then v1 else .top,fun _=>none⟩,rfl,fun t=>?_,fun _=>.inl rfl,.inr ⟨fun _=>wtd VN,v2,[],?_,g8.refl _,(fun b9 bZ=>by cases bZ),(fun b9 b' bZ=>by cases bZ),(fun c hc=>by rw [YG] at hc;cases hc)⟩⟩⟩
     ·simp only [Bool.or_eq_false_iff];refine ⟨?_,cb (by omega)⟩;cases hb:bit B i' (i'+1) with
      | false=>rfl
      | true=>have:=B1 (hB i' _ at1) hb;omega
     ·rw [aaH];exact ahH
     ·by_cases e:t=d1
      ·refine .inr ⟨?_,?_⟩
       ·rw [e];simp only [List.length_cons,HA];exact ahF
       ·simp only [e,if_true,zO,List.length_cons,HA,VJ,Om,Nat.beq_refl,Bool.and_self]
      ·exact .inl (by simp only [if_neg e])
     ·have lX:=MZ (P:=E.P) (s:=⟨s.nt,0,fun t=>if t=d1 then v1 else .top,fun _=>none⟩) (cs:=[.top,.int .i64 (st:Nat)]) YG (fun {w F O μ K ft act} hs=>by
       have:=hs.tm d1;simp only [if_true] at this;exact this) (by simp)
      exact lX
    ·let M2:fG:=⟨s.nt,0,fun t=>if t=d2 then v2 else if t=d1 then .top else (look T.tm t).av T.H,fun b9=>if b9=sB then some (.G5 (lp.map fun x=>c6 (I9 i) (get i x)) (C7 lA r) st) else none⟩
     have hv2:∀ (xx:Operand),dT M2 xx ((bL.val ⟨T.nt,T.N,(d1,.top)::(d2,.top)::T.tm,T.H⟩ xx).av T.H):=by
      intro xx w F O μ K ft act hs;cases xx with
      | tmp q2=>
       have:=hs.tm q2;simp only [bL.val,look];cases e1:Nat.beq q2 d1 with
       | true=>simp only [TA.av];exact .top _
       | false=>
        cases e2:Nat.beq q2 d2 with
        | true=>simp only [TA.av];exact .top _
        | false=>
         simp only [M2,if_neg (Nat.ne_of_beq_eq_false e1),if_neg (Nat.ne_of_beq_eq_false e2)] at this;exact this
      | const u=>simp only [bL.val,Nd];exact J0 u
      | func f=>simp only [bL.val,TA.av,di];exact .fn _ [] [] [] [] rfl rfl (fun i h=>by cases h) (fun i h=>by cases h)
      | global g=>simp only [bL.val,TA.av];exact .top _
     have lX:=O8 (P:=E.P) (s:=M2) (va:=cL y0) ho3 (id:=sB) (j:=C7 lA r) (st:=st) (l:=lp.map fun x=>c6 (I9 i) (get i x))
      (fun {w F O μ K ft act} hs=>by have:=hv2 m3 hs;rw [ahI] at this;simpa only [TA.av] using this) (by simp only [M2,if_true]) (fun {w F O μ K ft act} hs=>by
       have:=hs.tm d2;simp only [M2,if_true] at this;exact this) (fun {w F O μ K ft act} hs=>ahL T.H (hv2 x hs)) (uq ahK)
     have Uo:(lp.map fun x=>c6 (I9 i) (get i x)).set (C7 lA r) (((lp.map fun x=>c6 (I9 i) (get i x)).getD (C7 lA r) (.top,.top)).1,cL y0)=acs:=by
      rw [Yy];show (lp.map fun x=>c6 (n+1) (get i x)).set (C7 lA r) (((lp.map fun x=>c6 (n+1) (get i x)).getD (C7 lA r) (.top,.top)).1,cL y0)=acs;rw [← Ko];exact afX
     rw [Uo] at lX;refine ⟨_,⟨some d2,v2,[],T.N,0⟩::⟨some d1,v1,[],T.N,0⟩::q,af1 _ _,by simp [HA],⟨[Ys],rfl⟩,.inl ⟨?_,aaI.symm,by rw [aaI],fun b9 bZ=>?_,M2,rfl,fun t=>?_,fun b9=>?_,.inr ⟨fun _=>wtd hg3,_,_,lX,g8.refl _,(fun b9 bZ=>bZ),fun b9 b' bZ ck=>?_,(fun c hc=>by rw [ho3] at hc;cases hc)⟩⟩⟩
     ·simp only [Bool.or_eq_false_iff];refine ⟨?_,cb (by omega)⟩;cases hb:bit B i' (i'+2) with
      | false=>rfl
      | true=>have:=B1 (hB i' _ at1) hb;omega
     ·simp only [Ys,List.map_cons,List.map_nil,List.mem_singleton] at bZ;rw [af2,if_pos (by simp [HA]),bZ];simp
     ·have hh:Hq B (i'+2) t 0 ops=false:=Qb fun q2 hq2=>by rw [Nat.zero_add];exact afT q2 (by omega)
      have aaJ:((⟨some d2,v2,[],T.N,0⟩:RE)::⟨some d1,v1,[],T.N,0⟩::q).length=i'+2:=by simp [HA]
      rw [aaJ];by_cases e2:t=d2
      ·refine .inr ⟨hh,?_⟩;simp only [M2,e2,if_true,zO,List.length_cons,HA,nG (i'+1) (by omega),Om,Nat.beq_refl,Bool.and_self]
      ·by_cases e1:t=d1
       ·exact .inl (by simp only [M2,if_neg e2,if_pos e1])
       ·refine .inr ⟨hh,?_⟩;simp only [M2,if_neg e2,if_neg e1,zO,Om,cb (fun h=>e2 h.symm),cb (fun h=>e1 h.symm),Bool.and_false];rw [Eu.tm t];refine tN fun j2 e' OG _=>?_;rw [nG j2 (by have:=jq OG;omega)]
     ·by_cases e:b9=sB
      ·refine .inr ⟨?_,?_⟩
       ·have aaJ:((⟨some d2,v2,[],T.N,0⟩:RE)::⟨some d1,v1,[],T.N,0⟩::q).length=i'+2:=by simp [HA]
        rw [aaJ];simp only [FJ,afT (i'+2) (by omega),Bool.and_false,Bool.or_false]
       ·simp only [M2,if_pos e,yi,yh,List.any_nil,Bool.and_false];rw [VE,e,ac1]
      ·exact .inl (by simp only [M2,if_neg e])
     ·simp only [Ys,List.map_cons,List.map_nil,List.mem_singleton] at bZ;subst bZ;simp only [Ys,Hp.c_,if_true,Option.some.injEq] at ck;exact ⟨.map acs,by simp only [Hp.c_,if_true],by rw [ck];exact eg.refl _⟩
   ·intro q' o' M' aez hX2 _ ahY agl a2 w3 F3 O3 μ3 ft3 _ _ _ af7 ah6 af8;exfalso;simp only [Bool.or_eq_true] at hX2;rcases hX2 with hX2 | hX2
    ·have h1:=hBi q' hX2;have h2:=af8 q' (by rw [hD'];simp only [more];split<;>first | rfl | exact h1);rw [af7] at h2;cases h2
    ·have e:=Nat.eq_of_beq_eq_true hX2;have h2:=af8 q' (by rw [e];exact af4);rw [af7] at h2;cases h2
   ·intro w' F' O' aZ bX a' _ aeh ahP ahQ;exact ahM v1 v2 s2.H af5 w' F' O' aZ bX a' aeh ahP ahQ
   ·rw [hD'];intro q1 hq1 q2 hb;simp only [more] at hq1 ⊢;split
    ·rfl
    ·split at hq1
     ·rename_i e;subst e;exact hBi q2 hb
     ·exact LK q1 hq1 q2 hb
   ·have hD2:jr (listed.setIfInBounds i' true) (i'+2)=false:=by rw [hDo _ (by omega)];exact Yg.2.2
    have hD1:jr (listed.setIfInBounds i' true) (i'+1)=false:=by rw [hDo _ (by omega)];exact Yg.2.1
    rw [eKK];refine ⟨?_,?_,fun t=>?_,(fJ.df.step aey:qj w2 F1 O2 (SI a1.defers))⟩
    ·have e:(Js s.st (rs .top .top) (jr listed)).H.c_ [(sB,some (.G5 (FL lA (cL ⟨.st j,kk⟩) (cL yz) r) (C7 lA r) st))]=(Js s2 (rs v1 v2) (jr (listed.setIfInBounds i' true))).H:=by
      funext q';show _=yi (jr (listed.setIfInBounds i' true)) s2.H (rs v1 v2) q';rw [aex _ _ _ _ _ hD2];by_cases e:q'=sB
      ·subst e;rw [ac1,Yy];simp only [Hp.c_,if_true];rw [Ko]
      ·rw [af5 q' e];simp only [Hp.c_,if_neg e];show yi (jr listed) s.st.H (rs .top .top) q'=_;rw [aex _ _ _ _ _ Yg.2.2]
     rw [e] at hhr;exact hhr
    ·show (a1.put (some d1) _).tmps.size=s.nt;have:(a1.put (some d1) (.tuple #[v0,goInt (st:Nat)])).tmps.size=a1.tmps.size:=by simp [Act.put]
     rw [this];exact fJ.nt
    ·show VR w2 F1 Hz _ (zO (jr (listed.setIfInBounds i' true)) s2.tm (rs v1 v2) t) _;simp only [rs,zO,List.length_cons,HA,hD2,hD1,af4,Bool.false_and,Bool.true_and,Om];have hold:=(fJ.tm t).step fJ.hr aey fun _ h=>h;have hold:VR w2 F1 Hz (kD (jr listed) s.N (rs .top .top)) (zO (jr listed) s.st.tm (rs .top .top) t) (a1.tmps.getD t undef):=hold;simp only [rs,zO,List.length_cons,HA,Yg.1,Yg.2.1,Yg.2.2,Bool.false_and] at hold;cases e:Nat.beq d1 t with
     | true=>
      have e:=Nat.eq_of_beq_eq_true e;subst e;have:(a1.put (some d1) (.tuple #[v0,goInt (st:Nat)])).tmps.getD d1 undef=.tuple #[v0,goInt (st:Nat)]:=by simp [Act.put,af6]
      rw [this];exact .KR (.cons (.top _) (.cons (.int _ _) .nil))
     | false=>
      have oV:=Nat.ne_of_beq_eq_false e;have:(a1.put (some d1) (.tuple #[v0,goInt (st:Nat)])).tmps.getD t undef=a1.tmps.getD t undef:=by simp [Act.put,Array.getElem?_setIfInBounds_ne oV]
      rw [this];have e3:zO (jr (listed.setIfInBounds i' true)) s2.tm q t=zO (jr listed) s.st.tm q t:=tN fun j2 e' OG _=>hDo j2 (by have:=jq OG;omega);simp only;rw [e3];exact hold
  ·exfalso;have h1:=hBi p VJ;rw [Yg.1] at h1;cases h1
  ·exfalso;have h1:=hBi p (nG p (by omega));rw [Yg.1] at h1;cases h1
 ·rintro w' F' O' aZ bX a' ⟨D,Yg,hD⟩
  have:=hD p (by omega);rw [Yg.1] at this;cases this
 ·rw [show (⟨ops⟩:Array Oper).size=ops.length from rfl,emp];have:Js s.st (rs .top .top) (fun _=>false)=s.st:=by simp only [Js,eT,eH]
  rw [this];have e:kD (fun _=>false) s.st.N (rs .top .top)=below s.N:=eK _;rw [e];exact { hr:=hs.hr.drew _,nt:=hs.nt,tm:=fun t=>(hs.tm t).drew _,df:=hs.df.same fun _ _=>rfl }
end Go.Proofs.YtjkbbdldmdajkaaGreatDoor.c5
