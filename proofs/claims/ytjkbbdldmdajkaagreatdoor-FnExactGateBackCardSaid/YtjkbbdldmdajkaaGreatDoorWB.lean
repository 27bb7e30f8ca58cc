/- Iterators: what they yield, and that they keep their promise. No condition. -/
import Derived.Test.YtjkbbdldmdajkaaGreatDoorWA
namespace Go.Proofs.YtjkbbdldmdajkaaGreatDoor.c_
open Go Go.RowKit
variable {w w' xk:World} {F F' Bs O O' v8:Nat→Prop} {μ bC lG:Nat→Nat} {K K' EF:Nat→Prop} {ft bZ:Nat→Nat→Prop} {P:Program}
def QI {α:Type} (y:α) (a b:Option (List α)):Option (List α):=match a,b with
 | some r,some []=>some (y::r)
 | _,_=>none
theorem Un {α:Type} {y:α} {a b:Option (List α)} {z:List α} (h:QI y a b=some z):∃ r,z=y::r∧a=some r∧b=some []:=by
 unfold QI at h;split at h
 ·cases h;exact ⟨_,rfl,rfl,rfl⟩
 ·cases h
structure KsY (α:Type) where
 n:bP→List Nat→Option (List α)
 x:Nat→bP→List Nat→Option (List α)
 r:bP→List Nat→Option (List α)
def W8 (Y:List Nat) (o:Oper):Option (List Operand):=match o.op with
 | .call ⟨.value (.tmp t),⟨args⟩,_⟩=>match xH Y t with
  | true=>some args
  | false=>none
 | _=>none
def W9 (Y:List Nat) (o:Oper):Bool:=match o.op with
 | .move (.tmp t)=>xH Y t
 | .assign (.tmp t)=>xH Y t
 | _=>false
def Qx (Y:List Nat):Option Nat→List Nat
 | none=>Y
 | some d=>Y.filter fun t=>!Nat.beq t d
def afV (Y:List Nat):Option Nat→List Nat
 | none=>Y
 | some d=>d::Y
def LD (E:Env) (bN:List CT) (eR:List Ty) (o:Oper) (s:bP) (Y:List Nat) (b:Bool) (κ:bP→List Nat→Option (List (zj eR))):Option (List (zj eR)):=
 match b with
 | false=>κ (s.put o.dst (.lit undef)) (Qx Y o.dst)
 | true=>match W8 Y o with
  | some args=>match CF s.H (eR.map .d) (args.map s.val) ⟨[],[]⟩ with
   | some (⟨[],[]⟩,ds)=>match o8 eR ds with
    | some y=>QI y (κ (s.put o.dst (.d ⟨.bool,true⟩)) (Qx Y o.dst)) (κ (s.put o.dst (.d ⟨.bool,false⟩)) (Qx Y o.dst))
    | none=>none
   | _=>none
  | none=>match W9 Y o with
   | true=>κ (s.put o.dst .top) (afV Y o.dst)
   | false=>match E0 s (KQ E bN o s) with
    | ⟨nt,N,tm,H⟩=>evT E bN o ⟨nt,N,tm,H⟩ (fun r=>κ ((bP.next ⟨nt,N,tm,H⟩ r).put o.dst r.v) (Qx Y o.dst)) (fun _=>none)
def CM (E:Env) (bN:List CT) (eR:List Ty) (ops:Array Oper):List Oper→bP→List Nat→(bP→List Nat→Option (List (zj eR)))→Option (List (zj eR))
 | [],s,Y,κ=>κ s Y
 | o::rest,s,Y,κ=>match pA s o.dst with
  | true=>match Oq ops s o with
   | some .yes=>LD E bN eR o s Y true fun s Y=>CM E bN eR ops rest s Y κ
   | some .no=>LD E bN eR o s Y false fun s Y=>CM E bN eR ops rest s Y κ
   | some (.on t b c)=>cond b (LD E bN eR o (s.E2 t true) Y c fun s Y=>CM E bN eR ops rest s Y κ) (LD E bN eR o (s.E2 t false) Y (!c) fun s Y=>CM E bN eR ops rest s Y κ)
   | none=>none
  | false=>none
def BG (E:Env) (bN:Nat→List CT) (A:Ann) (eR:List Ty):Code→Nat→bP→List Nat→KsY (zj eR)→Option (List (zj eR))
 | .skip,_,s,Y,ks=>ks.n s Y
 | .region _ ⟨ops⟩ false,k,s,Y,ks=>CM E (bN k) eR ⟨ops⟩ ops s Y ks.n
 | .seq x y,k,s,Y,ks=>BG E bN A eR x k s Y { ks with n:=fun s' Y'=>BG E bN A eR y k s' Y' ks }
 | .cond c x y,k,s,Y,ks=>match s.val c with
  | .d ⟨.bool,b⟩=>cond b (BG E bN A eR x k s Y ks) (BG E bN A eR y k s Y ks)
  | _=>none
 | .block id c,k,s,Y,ks=>BG E bN A eR c k s Y { ks with x:=fun i s' Y'=>match Nat.beq i id with
  | true=>ks.n s' Y'
  | false=>ks.x i s' Y' }
 | .loop c,k,s,Y,ks=>match acG A.loop c,xH Y 0 with
  | some f,true=>Df f 0 (iter k fun k' rec=>E3 f s.nt fun s'=>BG E bN A eR c k' s' [0] { ks with n:=fun s' Y'=>match xH Y' 0 with
   | true=>Df f 0 rec s'
   | false=>none }) s
  | _,_=>none
 | .exit id,_,s,Y,ks=>ks.x id s Y
 | .ret,_,s,Y,ks=>ks.r s Y
 | _,_,_,_,_=>none
structure HY {α:Type} (J:List α→World→(Nat→Prop)→(Nat→Prop)→Prop) (yv:Value) (n0:Nat) (z:List α) (s:bP) (Y:List Nat) (a:Act) (w:World) (F O:Nat→Prop) (μ:Nat→Nat) (ft:Nat→Nat→Prop):Prop where
 ok:s.ok
 nt:s.nt=n0
 df:a.defers=[]
 sr:SR w F O μ (below s.N) s.st ft a
 y:∀ t,xH Y t=true→a.tmps.getD t undef=yv
 j:J z w F O
def KsY.at {α:Type} (ks:KsY α) (z:List α) (e:Exit) (s:bP) (Y:List Nat):Prop:=match e with
 | .normal=>ks.n s Y=some z
 | .exit i=>ks.x i s Y=some z
 | .ret=>ks.r s Y=some z
 | _=>False
def adn {α:Type} (ks:KsY α) (J:List α→World→(Nat→Prop)→(Nat→Prop)→Prop) (yv:Value) (n0:Nat):Exit→Act→World→Prop:=fun e a w=>
 ∃ z s Y F O μ ft,HY J yv n0 z s Y a w F O μ ft∧ks.at z e s Y
theorem E4 {d t:Nat}:∀ {Y:List Nat},xH (Y.filter fun t=>!Nat.beq t d) t=true→xH Y t=true∧t≠d
 | [],h=>by cases h
 | i::r,h=>by
  simp only [List.filter_cons] at h;cases e:Nat.beq i d with
  | true=>
   rw [e] at h;obtain ⟨h1,h2⟩:=E4 (d:=d) (Y:=r) (by simpa using h);refine ⟨?_,h2⟩;simp only [xH];cases Nat.beq t i<;>simp [h1]
  | false=>
   rw [e] at h;simp only [Bool.not_false,if_true,xH] at h ⊢;cases e2:Nat.beq t i with
   | true=>
    rw [Nat.eq_of_beq_eq_true e2];exact ⟨rfl,Nat.ne_of_beq_eq_false e⟩
   | false=>
    rw [e2] at h;exact E4 h
theorem Qy {a:Act} {d:Option Nat} {v:Value} {t:Nat} (h:d≠some t):(a.put d v).tmps.getD t undef=a.tmps.getD t undef:=by
 cases d with
 | none=>rfl
 | some d=>
  have:d≠t:=fun e=>h (by rw [e]);simp [Act.put,Array.getElem?_setIfInBounds_ne this]
theorem Sh {Y:List Nat} {a:Act} {d:Option Nat} {v yv:Value} (h:∀ t,xH Y t=true→a.tmps.getD t undef=yv):∀ t,xH (Qx Y d) t=true→(a.put d v).tmps.getD t undef=yv:=fun t ht=>by
 cases d with
 | none=>exact h t ht
 | some d=>
  obtain ⟨h1,h2⟩:=E4 ht;rw [Qy (fun e=>h2 (by simpa using e.symm))];exact h t h1
theorem OG {a:Act} {d:Option Nat} {v:Value} (h:a.defers=[]):(a.put d v).defers=[]:=by cases d<;>exact h
theorem JB (s:bP) (d:Option Nat) (v:TA):(s.put d v).nt=s.nt:=by cases d<;>rfl
theorem OH (s:bP) (d:Option Nat) (v:TA):(s.put d v).N=s.N:=by cases d<;>rfl
theorem instL_ds:∀ {ts:List Ty} {ds:List cN} {as:List TA},instL id (ts.map vm.d) ds=some (as,[])→as=ds.map DJ
 | [],ds,as,h=>by
  simp only [List.map_nil,instL,Option.some.injEq,Prod.mk.injEq] at h;obtain ⟨h1,h2⟩:=h;subst h1 h2;rfl
 | t::ts,ds,as,h=>by
  simp only [List.map_cons,instL,instP] at h;cases ds with
  | nil=>cases h
  | cons y ds=>
   simp only at h;split at h
   ·rename_i a l h1;split at h1
    ·cases h1;split at h
     ·rename_i bs l' h2;cases h;rw [instL_ds h2];rfl
     ·cases h
    ·cases h1
   ·cases h
section
variable {E:Env} {eR:List Ty} {l:Nat} {J:List (zj eR)→World→(Nat→Prop)→(Nat→Prop)→Prop}
def DK (l:Nat):Value:=.func (.yield l) ⟨[]⟩ ⟨[]⟩
theorem aa9 {bN:List CT} {o:Oper} {s:bP} {Y:List Nat} {b:Bool} {κ:bP→List Nat→Option (List (zj eR))} {z:List (zj eR)} {n0:Nat} {a:Act} {ops:Array Oper} {Kn:Act→World→Prop} {Q:Exit→Act→World→Prop} (hE:xo E bN) (xm:YG J) (hrd:OD E.P l eR J)
  (h:LD E bN eR o s Y b κ=some z) (hd:pA s o.dst=true) (hw:Region.wanted o (yielded ops a.tmps)=b) (hy:HY J (DK l) n0 z s Y a w F O μ ft)
  (hk:∀ z' s' Y' a' w' F' O' bC bZ,κ s' Y'=some z'→HY J (DK l) n0 z' s' Y' a' w' F' O' bC bZ→Kn a' w'):
  if Region.wanted o (yielded ops a.tmps) then o.wpIn (Wr none) 0 E.P a w Kn Q else (∀ f,o.about E.P w a.eval=some f→(Wr none).fn f)∧Kn (a.put o.dst undef) w:=by
 cases b with
 | false=>
  rw [hw];simp only [LD] at h;simp only [Bool.false_eq_true,if_false];refine ⟨fun _ _=>trivial,hk _ _ _ _ w F O μ ft h ⟨Ay hy.ok (by simp only [TA.wf]),by rw [JB];exact hy.nt,OG hy.df,by rw [OH];exact HP hy.sr hd (by simp only [TA.av];exact .lit _),Sh hy.y,hy.j⟩⟩
 | true=>
  rw [hw];simp only [if_true];simp only [LD] at h;split at h
  ·rename_i args hya;split at h
   ·rename_i ds he;split at h
    ·rename_i y hc;obtain ⟨r,rfl,k1,k2⟩:=Un h;unfold W8 at hya;split at hya
     ·rename_i t ahy ts m_;split at hya
      ·rename_i KM;cases hya;have hyv:a.eval (.tmp t)=DK l:=hy.y t KM;obtain ⟨as,e1,e2⟩:=OC he;have zd:=e2 (Bx s args hy.sr);rw [instL_ds e1,c7,List.map_map] at zd;have tt:(ds.map (TA.av [] ∘ DJ))=(fq eR y).map cR:=by
        rw [ml hc];exact List.map_congr_left fun q _=>Mo [] q
       rw [tt] at zd;obtain ⟨fn,tmps,x1,x2,lH,V0⟩:=hrd y r w F O μ _ hy.j hy.sr.hr.wf3 zd;refine ⟨fun _ _=>trivial,?_⟩;rw [Oper.semAt_eq _ _ _ (by intro c hc';rw [m_] at hc';cases hc')];have hex:(execOp a.eval o).run E.P w=.ok (.round l fn tmps x1 x2) w:=by
        simp only [execOp,m_,resolve,hyv,DK,Deferred.ofValue,Sem.run_bind,Sem.run_pure,Result.andThen_ok,invoke];simpa using lH
       rw [hex];refine ⟨(fun h=>by cases h),RoundIn.mono V0 ?_⟩
       rintro e w' ⟨b,rfl,kp,hj⟩
       have gh:SR w' F O μ (below s.N) s.st ft a:=⟨hy.sr.hr.kp kp,hy.sr.nt,fun t=>(hy.sr.tm t).kp hy.sr.hr kp,by rw [hy.df];exact wx.nil⟩;cases b with
       | true=>exact hk r _ _ _ w' F O μ ft k1 ⟨Ay hy.ok (by simp only [TA.wf]),by rw [JB];exact hy.nt,OG hy.df,by rw [OH];exact HP gh hd (by simp only [TA.av,cR];exact .bool _),Sh hy.y,hj⟩
       | false=>exact hk [] _ _ _ w' F O μ ft k2 ⟨Ay hy.ok (by simp only [TA.wf]),by rw [JB];exact hy.nt,OG hy.df,by rw [OH];exact HP gh hd (by simp only [TA.av,cR];exact .bool _),Sh hy.y,hj⟩
      ·cases hya
     ·cases hya
    ·cases h
   ·cases h
  ·split at h
   ·rename_i hmv;have key:∀ t,xH Y t=true→(o.op=.move (.tmp t)∨o.op=.assign (.tmp t))→o.wpIn (Wr none) 0 E.P a w Kn Q:=by
     intro t hm m_;refine T8 (fun c hc=>by rcases m_ with e | e<;>rw [e] at hc<;>cases hc) ?_;unfold Oper.wp;have hex:(execOp a.eval o).run E.P w=.ok (.value (a.eval (.tmp t))) w:=by rcases m_ with e | e<;>simp [execOp,e]
     rw [hex,Oper.upon_value];refine hk z _ _ _ w F O μ ft h ⟨Ay hy.ok (by simp only [TA.wf]),by rw [JB];exact hy.nt,OG hy.df,by rw [OH];exact HP hy.sr hd (by simp only [TA.av];exact .top _),fun t' XW=>?_,hy.j⟩;have hyv:a.eval (.tmp t)=DK l:=hy.y t hm;cases PD:o.dst with
     | none=>rw [PD] at XW;exact hy.y t' XW
     | some d=>
      rw [PD] at XW hd;by_cases e:d=t'
      ·subst e;have dQ:d < a.tmps.size:=by rw [hy.sr.nt];exact Nat.le_of_ble_eq_true hd
       rw [hyv];simp [Act.put,dQ]
      ·rw [Qy (fun h=>e (by simpa using h))];refine hy.y t' ?_;simp only [afV,xH,cd (show ¬ t'=d from fun h=>e h.symm)] at XW;exact XW
    unfold W9 at hmv;split at hmv
    ·rename_i t m_;exact key t hmv (.inl m_)
    ·rename_i t m_;exact key t hmv (.inr m_)
    ·cases hmv
   ·obtain ⟨z1,z2,z3,F1,O1,z4,z5⟩:=R5 (KQ E bN o s) hy.ok hy.sr;have h:evT E bN o (E0 s (KQ E bN o s)) (fun r=>κ ((bP.next (E0 s (KQ E bN o s)) r).put o.dst r.v) (Qx Y o.dst)) (fun _=>none)=some z:=h;have hd:pA (E0 s (KQ E bN o s)) o.dst=true:=by
     cases PD:o.dst with
     | none=>rfl
     | some t=>rw [PD] at hd;simp only [pA,z3] at hd ⊢;exact hd
    refine T8 (VT h) ?_;rcases VO hE z1 h with ⟨r,h1,h2,h3⟩ | ⟨r,_,_,h3⟩
    ·refine Wx h1 z4 fun v w' F' O' bC bZ k1 k2 k3=>?_;have IC:=RF z4 z1 h2 k2 k3;have JH:=Jg z1 h2;have NO:pA (bP.next (E0 s (KQ E bN o s)) r) o.dst=true:=by cases PD:o.dst<;>rw [PD] at hd<;>exact hd
     refine hk z _ _ _ w' F' O' bC bZ h3 ⟨Ay JH h2.v,by rw [JB];exact z3.trans hy.nt,OG hy.df,by rw [OH];exact HP IC NO k1,Sh hy.y,?_⟩;exact xm _ _ _ _ _ _ _ _ _ _ (xm _ _ _ _ _ _ _ _ _ _ hy.j hy.sr.hr.wf3 z4.hr.wf3 z5) z4.hr.wf3 k2.wf3 k3
    ·cases h3
theorem Qz {bN:List CT} {ops:Array Oper} {κ:bP→List Nat→Option (List (zj eR))} {n0:Nat} {Q:Exit→Act→World→Prop} (hE:xo E bN) (xm:YG J) (hrd:OD E.P l eR J):∀ {lo:List Oper} {z:List (zj eR)} {s:bP} {Y:List Nat} {w:World} {F O:Nat→Prop} {μ:Nat→Nat} {ft:Nat→Nat→Prop} {a:Act},
  CM E bN eR ops lo s Y κ=some z→HY J (DK l) n0 z s Y a w F O μ ft→
  (∀ z' s' Y' a' w' F' O' bC bZ,κ s' Y'=some z'→HY J (DK l) n0 z' s' Y' a' w' F' O' bC bZ→Q .normal a' w')→wpListIn (Wr none) 0 E.P ops Q lo a w
 | [],z,s,Y,w,F,O,μ,ft,a,h,hy,hk=>by
  simp only [CM] at h;exact hk z s Y a w F O μ ft h hy
 | o::rest,z,s,Y,w,F,O,μ,ft,a,h,hy,hk=>by
  simp only [CM] at h;have go:∀ (s0:bP) (b:Bool),LD E bN eR o s0 Y b (fun s Y=>CM E bN eR ops rest s Y κ)=some z→pA s0 o.dst=true→HY J (DK l) n0 z s0 Y a w F O μ ft→Region.wanted o (yielded ops a.tmps)=b→wpListIn (Wr none) 0 E.P ops Q (o::rest) a w:=by
   intro s0 b h0 hd0 hy0 hw0;exact aa9 (ops:=ops) hE xm hrd h0 hd0 hw0 hy0 fun z' s' Y' a' w' F' O' bC bZ OW hh=>Qz hE xm hrd OW hh hk
  split at h
  ·rename_i hd;split at h
   ·rename_i hw;exact go s true h hd hy (qg hy.sr hw)
   ·rename_i hw;exact go s false h hd hy (qg hy.sr hw)
   ·rename_i t b c hw;have hl:=H6 hw;have X8:=qg hy.sr hw;simp only at X8;cases b with
    | true=>
     refine go _ c h hd ⟨Jt hy.ok,hy.nt,hy.df,Mp hy.sr hl,hy.y,hy.j⟩ ?_;rw [X8];cases c<;>rfl
    | false=>
     refine go _ (!c) h hd ⟨Jt hy.ok,hy.nt,hy.df,Mp hy.sr hl,hy.y,hy.j⟩ ?_;rw [X8];cases c<;>rfl
   ·cases h
  ·cases h
theorem Uo {f:jS} {Jf:L8 f.eR (Option (List (zj eR)))} {s:bP} {Y:List Nat} {z:List (zj eR)} {n0:Nat} {a:Act} (xm:YG J) (h:Df f 0 Jf s=some z) (hm:xH Y 0=true) (hy:HY J (DK l) n0 z s Y a w F O μ ft):
  ∃ x s',yJ f.eR Jf x=some z∧instF n0 f (fq f.eR x)=some s'∧∃ F' O' bC bZ,HY J (DK l) n0 z s' [0] a w F' O' bC bZ:=by
 obtain ⟨x,s',h1,h2,F',O',bC,bZ,hh⟩:=BE (n0:=(s.nt,0)) h hy.ok (Nat.zero_le _) ⟨rfl,fun _ _=>Nat.zero_le _⟩ hy.sr;rw [hy.nt] at h2;refine ⟨x,s',h1,h2,F',O',bC,bZ,hh.ok,hh.nt.1.trans hy.nt,hy.df,hh.sr,fun t ht=>?_,xm _ _ _ _ _ _ _ _ _ _ hy.j hy.sr.hr.wf3 hh.sr.hr.wf3 hh.fr⟩;have:t=0:=by
  simp only [xH] at ht;split at ht
  ·rename_i e;exact Nat.eq_of_beq_eq_true e
  ·cases ht
 subst this;exact hy.y 0 hm
theorem acQ {bN:Nat→List CT} {A:Ann} {K0:Nat} {n0:Nat} (hE:∀ k,k≤K0→xo E (bN k)) (xm:YG J) (hrd:OD E.P l eR J):∀ (c:Code) (k:Nat) (z:List (zj eR)) (s:bP) (Y:List Nat) (ks:KsY (zj eR)),BG E bN A eR c k s Y ks=some z→k≤K0→
  ∀ {w:World} {F O:Nat→Prop} {μ:Nat→Nat} {ft:Nat→Nat→Prop} {a:Act},HY J (DK l) n0 z s Y a w F O μ ft→c.wpIn (Wr none) 0 E.P (adn ks J (DK l) n0) a w:=by
 intro c
 induction c with
 | skip=>
  intro k z s Y ks h xq w F O μ ft a hy;exact wpIn_skip ⟨z,s,Y,F,O,μ,ft,hy,h⟩
 | label i=>intro k z s Y ks h;simp [BG] at h
 | goto i=>intro k z s Y ks h;simp [BG] at h
 | refuse i=>intro k z s Y ks h;simp [BG] at h
 | scope c ih=>intro k z s Y ks h;simp [BG] at h
 | rangeFunc f p x y ih1 ih2=>intro k z s Y ks h;simp [BG] at h
 | exit id=>
  intro k z s Y ks h xq w F O μ ft a hy;exact wpIn_exit ⟨z,s,Y,F,O,μ,ft,hy,h⟩
 | ret=>
  intro k z s Y ks h xq w F O μ ft a hy;exact wpIn_ret ⟨z,s,Y,F,O,μ,ft,hy,h⟩
 | region id ops draw=>
  intro k z s Y ks h xq w F O μ ft a hy;obtain ⟨ops⟩:=ops;cases draw with
  | false=>
   simp only [BG] at h;exact wpIn_region_list (Qz (hE k xq) xm hrd h hy fun z' s' Y' a' w' F' O' bC bZ h1 h2=>⟨z',s',Y',F',O',bC,bZ,h2,h1⟩)
  | true=>simp [BG] at h
 | seq x y ihx ihy=>
  intro k z s Y ks h xq w F O μ ft a hy;simp only [BG] at h;refine wpIn_seq (Code.wpIn_mono ?_ (ihx k z s Y _ h xq hy))
  rintro e a' w' ⟨z',s',Y',F',O',bC,bZ,hh,hk⟩
  cases e with
  | normal=>exact ihy k z' s' Y' ks hk xq hh
  | _=>exact ⟨z',s',Y',F',O',bC,bZ,hh,hk⟩
 | cond c x y ihx ihy=>
  intro k z s Y ks h xq w F O μ ft a hy;simp only [BG] at h;split at h
  ·rename_i b hb;have hv:=bX hb hy.sr;simp only [TA.av,cR] at hv;cases b with
   | true=>exact wpIn_cond_true hv.fe (ihx k z s Y ks h xq hy)
   | false=>exact wpIn_cond_false hv.fe (ihy k z s Y ks h xq hy)
  ·cases h
 | block id c ih=>
  intro k z s Y ks h xq w F O μ ft a hy;simp only [BG] at h;refine wpIn_block (Code.wpIn_mono ?_ (ih k z s Y _ h xq hy))
  rintro e a' w' ⟨z',s',Y',F',O',bC,bZ,hh,hk⟩
  cases e with
  | exit b9=>
   simp only [KsY.at] at hk;simp only [Exit.inBlock];split
   ·rename_i e;subst e;rw [Nat.beq_refl] at hk;exact ⟨z',s',Y',F',O',bC,bZ,hh,hk⟩
   ·rename_i e;rw [cd e] at hk;exact ⟨z',s',Y',F',O',bC,bZ,hh,hk⟩
  | _=>exact ⟨z',s',Y',F',O',bC,bZ,hh,hk⟩
 | loop c ih=>
  intro k z s Y ks h xq w F O μ ft a hy;simp only [BG] at h;split at h
  ·rename_i f hf hm;have key:∀ (k:Nat),k≤K0→∀ (z:List (zj eR)) (x:zj f.eR) (s':bP),yJ f.eR (iter k fun k' rec=>E3 f s.nt fun s'=>BG E bN A eR c k' s' [0] { ks with n:=fun s' Y'=>match xH Y' 0 with
      | true=>Df f 0 rec s'
      | false=>none }) x=some z→instF s.nt f (fq f.eR x)=some s'→
     ∀ {w:World} {F O:Nat→Prop} {μ:Nat→Nat} {ft:Nat→Nat→Prop} {a:Act},HY J (DK l) n0 z s' [0] a w F O μ ft→Ad none E.P c (adn ks J (DK l) n0) a w:=by
    intro k
    induction k with
    | zero=>
     intro _ z x s' h1;simp only [iter] at h1;rw [xI] at h1;cases h1
    | succ k ihk=>
     intro xq z x s' h1 h2 w F O μ ft a hy';simp only [iter] at h1;rw [BF h2] at h1;refine Ad.round (Code.wpIn_mono ?_ (ih k z s' _ _ h1 (by omega) hy'))
     rintro e a' w' ⟨z',s2,Y2,F',O',bC,bZ,hh,hk⟩
     cases e with
     | normal=>
      simp only [KsY.at] at hk;split at hk
      ·rename_i hm2;obtain ⟨x',s3,k1,k2,F2,O2,Gq,Lu,k3⟩:=Uo xm hk hm2 hh;exact ihk (by omega) z' x' s3 k1 (by rw [hy.nt];exact k2) k3
      ·cases hk
     | _=>exact ⟨z',s2,Y2,F',O',bC,bZ,hh,hk⟩
   obtain ⟨x,s',h1,h2,F',O',bC,bZ,h3⟩:=Uo xm h hm hy;exact (key k xq z x s' h1 (by rw [hy.nt];exact h2) h3).wp
  ·cases h
end
def afW (E:Env) (bN:Nat→List CT) (A:Ann) (AD:List vm) (eR:List Ty) (nt:Nat) (code:Code) (k:Nat) (x:zj (CE AD)):Option (List (zj eR)):=
 match instL id AD (fq _ x) with
 | some (as,[])=>match Nat.ble (as.length+1) nt&&Y3 0 AD with
  | true=>BG E bN A eR code k ⟨nt,0,KW 0 (.top::as),[]⟩ [0] ⟨fun _ _=>some [],fun _ _ _=>none,fun _ _=>some []⟩
  | false=>none
 | _=>none
theorem So {E:Env} {bN:Nat→List CT} {A:Ann} {c:IT} {fn:Func} {code:Code} (k:Nat) (hE:∀ j,j≤k→xo E (bN j)) (Uj:∀ (xs:Array Value) (w:World),(callFunc c.f xs).run E.P w=.ok (.enter c.f xs) w)
  (hf:E.P.funcs[c.f]?=some fn) (hb:fn.body=some code) (hr:fn.results.toList=[]) (h:c.L=Xo _ (afW E bN A c.AD c.eR fn.ntmps code k)):JY E.P c:=by
 refine ⟨Uj,fun x xs hx as has w F μ us RC hwf YH l J xm hrd hj=>?_⟩;rw [h,xI] at hx;unfold afW at hx;rw [has] at hx;simp only at hx;split at hx
 ·rename_i hg;simp only [Bool.and_eq_true] at hg;obtain ⟨hn,hl⟩:=hg;have hn:=Nat.le_of_ble_eq_true hn;have hv:iL w F μ (below 0) (dD [] (.top::as)) (DK l::us):=by
   simp only [dD,TA.av];exact .cons (.top _) ⟨RC.1,fun i hi=>(RC.2 i hi).up⟩
  have hr0:HR w F (fun _=>False) μ (below 0) (xn []) (fun _ _=>False):=
   { lt:=fun id h=>absurd h (by simp [below]),known:=fun id b h=>(by cases h),dC:=fun id b h=>(by cases h),self:=fun id ⟨b,h,_⟩=>(by cases h),own:=fun id _ x h=>h.elim,dj:=fun id b9 ⟨b,h,_⟩=>(by cases h),zc:=fun _ h=>h.elim,wf:=hwf,rT:=fun _ h=>h.elim,pos:=YH }
  have hs:=Ul (nt:=fn.ntmps) (N:=0) hr0 hv (by simpa using hn);have o_:bP.ok ⟨fn.ntmps,0,KW 0 (.top::as),[]⟩:=by
   have hw:=instL_wf (m:=0) (N:=0) (H:=[]) (fun j h=>h) has hl;refine ⟨fun t=>?_,fun id l hl=>by cases hl⟩;show (look (KW 0 (.top::as)) t).wf [] _;rw [KX];split
   ·exact Cz (l:=.top::as) (by simp only [im,TA.wf];exact ⟨trivial,hw⟩) _
   ·simp only [TA.wf]
  have dQ:0 < fn.ntmps:=by omega
  have hy:HY J (DK l) fn.ntmps xs ⟨fn.ntmps,0,KW 0 (.top::as),[]⟩ [0] { tmps:=⟨DK l::us⟩++Array.replicate (fn.ntmps-(⟨DK l::us⟩:Array Value).size) undef,defers:=[] } w F (fun _=>False) μ (fun _ _=>False):=
   ⟨o_,rfl,rfl,hs,fun t ht=>by
    have:t=0:=by
     simp only [xH] at ht;split at ht
     ·rename_i e;exact Nat.eq_of_beq_eq_true e
     ·cases ht
    subst this;simp [Array.getElem?_append],hj⟩
  refine callsIn_of_wp_marks hf hb trivial (Code.wpIn_mono ?_ (acQ (fun j hj=>hE j hj) xm hrd code k xs _ _ _ hx (Nat.le_refl _) hy))
  rintro e a' w' ⟨z,s',Y',F',O',bC,bZ,hh,hk⟩
  have fin:z=[]→bodyPostM (Wr none) 0 E.P fn (fun e w'=>∃ v F' O',e=.returned v∧J [] w' F' O') .ret a' w':=by
   rintro rfl
   show LeavesInM _ _ _ _ _ _ a'.defers _ _;rw [hh.df];obtain ⟨_,u,k1,_⟩:=OF (P:=E.P) (fn:=fn) hh.ok hh.sr (l:=[]) (by rw [hr];rfl);exact ⟨u,k1,u,F',O',rfl,hh.j⟩
  cases e with
  | normal=>exact fin (by simpa [KsY.at] using hk.symm)
  | ret=>exact fin (by simpa [KsY.at] using hk.symm)
  | exit i=>cases hk
  | goto i=>exact hk.elim
  | panic l=>exact hk.elim
  | outgrown=>exact hk.elim
 ·cases hx
end Go.Proofs.YtjkbbdldmdajkaaGreatDoor.c_
