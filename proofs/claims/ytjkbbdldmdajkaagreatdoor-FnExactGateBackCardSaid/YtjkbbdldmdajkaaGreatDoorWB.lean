/- Iterators: what they yield, and that they keep their promise. No condition. -/
import Derived.Test.YtjkbbdldmdajkaaGreatDoorWA
namespace Go.Proofs.YtjkbbdldmdajkaaGreatDoor.c_
open Go Go.RowKit
variable {w w' xh:World} {F F' Bn O O' vW:Nat→Prop} {μ bD lF:Nat→Nat} {K K' EB:Nat→Prop} {ft bY:Nat→Nat→Prop} {P:Program}
def QE {α:Type} (y:α) (a b:Option (List α)):Option (List α):=match a,b with
 | some r,some []=>some (y::r)
 | _,_=>none
theorem Uk {α:Type} {y:α} {a b:Option (List α)} {z:List α} (h:QE y a b=some z):∃ r,z=y::r∧a=some r∧b=some []:=by
 unfold QE at h;split at h
 ·cases h;exact ⟨_,rfl,rfl,rfl⟩
 ·cases h
structure KsY (α:Type) where
 n:bP→List Nat→Option (List α)
 x:Nat→bP→List Nat→Option (List α)
 r:bP→List Nat→Option (List α)
def W5 (Y:List Nat) (o:Oper):Option (List Operand):=match o.op with
 | .call ⟨.value (.tmp t),⟨args⟩,_⟩=>match xG Y t with
  | true=>some args
  | false=>none
 | _=>none
def W6 (Y:List Nat) (o:Oper):Bool:=match o.op with
 | .move (.tmp t)=>xG Y t
 | .assign (.tmp t)=>xG Y t
 | _=>false
def Qt (Y:List Nat):Option Nat→List Nat
 | none=>Y
 | some d=>Y.filter fun t=>!Nat.beq t d
def afR (Y:List Nat):Option Nat→List Nat
 | none=>Y
 | some d=>d::Y
def LC (E:Env) (bN:List CT) (eR:List Ty) (o:Oper) (s:bP) (Y:List Nat) (b:Bool) (κ:bP→List Nat→Option (List (zf eR))):Option (List (zf eR)):=
 match b with
 | false=>κ (s.put o.dst (.lit undef)) (Qt Y o.dst)
 | true=>match W5 Y o with
  | some args=>match ES s.H (eR.map .d) (args.map s.val) ⟨[],[]⟩ with
   | some (⟨[],[]⟩,ds)=>match o7 eR ds with
    | some y=>QE y (κ (s.put o.dst (.d ⟨.bool,true⟩)) (Qt Y o.dst)) (κ (s.put o.dst (.d ⟨.bool,false⟩)) (Qt Y o.dst))
    | none=>none
   | _=>none
  | none=>match W6 Y o with
   | true=>κ (s.put o.dst .top) (afR Y o.dst)
   | false=>match EV s (KP E bN o s) with
    | ⟨nt,N,tm,H⟩=>evT E bN o ⟨nt,N,tm,H⟩ (fun r=>κ ((bP.next ⟨nt,N,tm,H⟩ r).put o.dst r.v) (Qt Y o.dst)) (fun _=>none)
def CH (E:Env) (bN:List CT) (eR:List Ty) (ops:Array Oper):List Oper→bP→List Nat→(bP→List Nat→Option (List (zf eR)))→Option (List (zf eR))
 | [],s,Y,κ=>κ s Y
 | o::rest,s,Y,κ=>match pz s o.dst with
  | true=>match Om ops s o with
   | some .yes=>LC E bN eR o s Y true fun s Y=>CH E bN eR ops rest s Y κ
   | some .no=>LC E bN eR o s Y false fun s Y=>CH E bN eR ops rest s Y κ
   | some (.on t b c)=>cond b (LC E bN eR o (s.EX t true) Y c fun s Y=>CH E bN eR ops rest s Y κ) (LC E bN eR o (s.EX t false) Y (!c) fun s Y=>CH E bN eR ops rest s Y κ)
   | none=>none
  | false=>none
def BD (E:Env) (bN:Nat→List CT) (A:Ann) (eR:List Ty):Code→Nat→bP→List Nat→KsY (zf eR)→Option (List (zf eR))
 | .skip,_,s,Y,ks=>ks.n s Y
 | .region _ ⟨ops⟩ false,k,s,Y,ks=>CH E (bN k) eR ⟨ops⟩ ops s Y ks.n
 | .seq x y,k,s,Y,ks=>BD E bN A eR x k s Y { ks with n:=fun s' Y'=>BD E bN A eR y k s' Y' ks }
 | .cond c x y,k,s,Y,ks=>match s.val c with
  | .d ⟨.bool,b⟩=>cond b (BD E bN A eR x k s Y ks) (BD E bN A eR y k s Y ks)
  | _=>none
 | .block id c,k,s,Y,ks=>BD E bN A eR c k s Y { ks with x:=fun i s' Y'=>match Nat.beq i id with
  | true=>ks.n s' Y'
  | false=>ks.x i s' Y' }
 | .loop c,k,s,Y,ks=>match acD A.loop c,xG Y 0 with
  | some f,true=>Da f 0 (iter k fun k' rec=>EY f s.nt fun s'=>BD E bN A eR c k' s' [0] { ks with n:=fun s' Y'=>match xG Y' 0 with
   | true=>Da f 0 rec s'
   | false=>none }) s
  | _,_=>none
 | .exit id,_,s,Y,ks=>ks.x id s Y
 | .ret,_,s,Y,ks=>ks.r s Y
 | _,_,_,_,_=>none
structure HY {α:Type} (J:List α→World→(Nat→Prop)→(Nat→Prop)→Prop) (yv:Value) (n0:Nat) (z:List α) (s:bP) (Y:List Nat) (a:Act) (w:World) (F O:Nat→Prop) (μ:Nat→Nat) (ft:Nat→Nat→Prop):Prop where
 ok:s.ok
 nt:s.nt=n0
 df:a.defers=[]
 sr:SR w F O μ (below s.N) s.st ft a
 y:∀ t,xG Y t=true→a.tmps.getD t undef=yv
 j:J z w F O
def KsY.at {α:Type} (ks:KsY α) (z:List α) (e:Exit) (s:bP) (Y:List Nat):Prop:=match e with
 | .normal=>ks.n s Y=some z
 | .exit i=>ks.x i s Y=some z
 | .ret=>ks.r s Y=some z
 | _=>False
def adk {α:Type} (ks:KsY α) (J:List α→World→(Nat→Prop)→(Nat→Prop)→Prop) (yv:Value) (n0:Nat):Exit→Act→World→Prop:=fun e a w=>
 ∃ z s Y F O μ ft,HY J yv n0 z s Y a w F O μ ft∧ks.at z e s Y
theorem EZ {d t:Nat}:∀ {Y:List Nat},xG (Y.filter fun t=>!Nat.beq t d) t=true→xG Y t=true∧t≠d
 | [],h=>by cases h
 | i::r,h=>by
  simp only [List.filter_cons] at h;cases e:Nat.beq i d with
  | true=>
   rw [e] at h;obtain ⟨h1,h2⟩:=EZ (d:=d) (Y:=r) (by simpa using h);refine ⟨?_,h2⟩;simp only [xG];cases Nat.beq t i<;>simp [h1]
  | false=>
   rw [e] at h;simp only [Bool.not_false,if_true,xG] at h ⊢;cases e2:Nat.beq t i with
   | true=>
    rw [Nat.eq_of_beq_eq_true e2];exact ⟨rfl,Nat.ne_of_beq_eq_false e⟩
   | false=>
    rw [e2] at h;exact EZ h
theorem Qu {a:Act} {d:Option Nat} {v:Value} {t:Nat} (h:d≠some t):(a.put d v).tmps.getD t undef=a.tmps.getD t undef:=by
 cases d with
 | none=>rfl
 | some d=>
  have:d≠t:=fun e=>h (by rw [e]);simp [Act.put,Array.getElem?_setIfInBounds_ne this]
theorem Se {Y:List Nat} {a:Act} {d:Option Nat} {v yv:Value} (h:∀ t,xG Y t=true→a.tmps.getD t undef=yv):∀ t,xG (Qt Y d) t=true→(a.put d v).tmps.getD t undef=yv:=fun t ht=>by
 cases d with
 | none=>exact h t ht
 | some d=>
  obtain ⟨h1,h2⟩:=EZ ht;rw [Qu (fun e=>h2 (by simpa using e.symm))];exact h t h1
theorem OE {a:Act} {d:Option Nat} {v:Value} (h:a.defers=[]):(a.put d v).defers=[]:=by cases d<;>exact h
theorem JA (s:bP) (d:Option Nat) (v:TA):(s.put d v).nt=s.nt:=by cases d<;>rfl
theorem OF (s:bP) (d:Option Nat) (v:TA):(s.put d v).N=s.N:=by cases d<;>rfl
theorem instL_ds:∀ {ts:List Ty} {ds:List cN} {as:List TA},instL id (ts.map wx.d) ds=some (as,[])→as=ds.map DF
 | [],ds,as,h=>by
  simp only [List.map_nil,instL,Option.some.injEq,Prod.mk.injEq] at h;obtain ⟨h1,h2⟩:=h;subst h1 h2;rfl
 | t::ts,ds,as,h=>by
  simp only [List.map_cons,instL,instP] at h;cases ds with
  | nil=>cases h
  | cons y ds=>
   simp only at h;split at h
   ·rename_i a l h1;split at h1
    ·cases h1;split at h
     ·rename_i bs l' h2;cases h;rw [instL_ds h2];rfl
     ·cases h
    ·cases h1
   ·cases h
section
variable {E:Env} {eR:List Ty} {l:Nat} {J:List (zf eR)→World→(Nat→Prop)→(Nat→Prop)→Prop}
def DG (l:Nat):Value:=.func (.yield l) ⟨[]⟩ ⟨[]⟩
theorem aa6 {bN:List CT} {o:Oper} {s:bP} {Y:List Nat} {b:Bool} {κ:bP→List Nat→Option (List (zf eR))} {z:List (zf eR)} {n0:Nat} {a:Act} {ops:Array Oper} {Kn:Act→World→Prop} {Q:Exit→Act→World→Prop} (hE:xm E bN) (xj:YD J) (hrd:OB E.P l eR J)
  (h:LC E bN eR o s Y b κ=some z) (hd:pz s o.dst=true) (hw:Region.wanted o (yielded ops a.tmps)=b) (hy:HY J (DG l) n0 z s Y a w F O μ ft)
  (hk:∀ z' s' Y' a' w' F' O' bD bY,κ s' Y'=some z'→HY J (DG l) n0 z' s' Y' a' w' F' O' bD bY→Kn a' w'):
  if Region.wanted o (yielded ops a.tmps) then o.wpIn (Wr none) 0 E.P a w Kn Q else (∀ f,o.about E.P w a.eval=some f→(Wr none).fn f)∧Kn (a.put o.dst undef) w:=by
 cases b with
 | false=>
  rw [hw];simp only [LC] at h;simp only [Bool.false_eq_true,if_false];refine ⟨fun _ _=>trivial,hk _ _ _ _ w F O μ ft h ⟨Au hy.ok (by simp only [TA.wf]),by rw [JA];exact hy.nt,OE hy.df,by rw [OF];exact HL hy.sr hd (by simp only [TA.av];exact .lit _),Se hy.y,hy.j⟩⟩
 | true=>
  rw [hw];simp only [if_true];simp only [LC] at h;split at h
  ·rename_i args hya;split at h
   ·rename_i ds he;split at h
    ·rename_i y hc;obtain ⟨r,rfl,k1,k2⟩:=Uk h;unfold W5 at hya;split at hya
     ·rename_i t ahu ts m9;split at hya
      ·rename_i KL;cases hya;have hyv:a.eval (.tmp t)=DG l:=hy.y t KL;obtain ⟨as,e1,e2⟩:=OA he;have BM:=e2 (Bu s args hy.sr);rw [instL_ds e1,c7,List.map_map] at BM;have tq:(ds.map (TA.av [] ∘ DF))=(fo eR y).map cT:=by
        rw [mj hc];exact List.map_congr_left fun q _=>Mn [] q
       rw [tq] at BM;obtain ⟨fn,tmps,x1,x2,lG,VX⟩:=hrd y r w F O μ _ hy.j hy.sr.hr.wf3 BM;refine ⟨fun _ _=>trivial,?_⟩;rw [Oper.semAt_eq _ _ _ (by intro c hc';rw [m9] at hc';cases hc')];have hex:(execOp a.eval o).run E.P w=.ok (.round l fn tmps x1 x2) w:=by
        simp only [execOp,m9,resolve,hyv,DG,Deferred.ofValue,Sem.run_bind,Sem.run_pure,Result.andThen_ok,invoke];simpa using lG
       rw [hex];refine ⟨(fun h=>by cases h),RoundIn.mono VX ?_⟩
       rintro e w' ⟨b,rfl,kp,hj⟩
       have gf:SR w' F O μ (below s.N) s.st ft a:=⟨hy.sr.hr.kp kp,hy.sr.nt,fun t=>(hy.sr.tm t).kp hy.sr.hr kp,by rw [hy.df];exact wq.nil⟩;cases b with
       | true=>exact hk r _ _ _ w' F O μ ft k1 ⟨Au hy.ok (by simp only [TA.wf]),by rw [JA];exact hy.nt,OE hy.df,by rw [OF];exact HL gf hd (by simp only [TA.av,cT];exact .bool _),Se hy.y,hj⟩
       | false=>exact hk [] _ _ _ w' F O μ ft k2 ⟨Au hy.ok (by simp only [TA.wf]),by rw [JA];exact hy.nt,OE hy.df,by rw [OF];exact HL gf hd (by simp only [TA.av,cT];exact .bool _),Se hy.y,hj⟩
      ·cases hya
     ·cases hya
    ·cases h
   ·cases h
  ·split at h
   ·rename_i hmv;have key:∀ t,xG Y t=true→(o.op=.move (.tmp t)∨o.op=.assign (.tmp t))→o.wpIn (Wr none) 0 E.P a w Kn Q:=by
     intro t hm m9;refine T5 (fun c hc=>by rcases m9 with e | e<;>rw [e] at hc<;>cases hc) ?_;unfold Oper.wp;have hex:(execOp a.eval o).run E.P w=.ok (.value (a.eval (.tmp t))) w:=by rcases m9 with e | e<;>simp [execOp,e]
     rw [hex,Oper.upon_value];refine hk z _ _ _ w F O μ ft h ⟨Au hy.ok (by simp only [TA.wf]),by rw [JA];exact hy.nt,OE hy.df,by rw [OF];exact HL hy.sr hd (by simp only [TA.av];exact .top _),fun t' XT=>?_,hy.j⟩;have hyv:a.eval (.tmp t)=DG l:=hy.y t hm;cases PA:o.dst with
     | none=>rw [PA] at XT;exact hy.y t' XT
     | some d=>
      rw [PA] at XT hd;by_cases e:d=t'
      ·subst e;have dT:d < a.tmps.size:=by rw [hy.sr.nt];exact Nat.le_of_ble_eq_true hd
       rw [hyv];simp [Act.put,dT]
      ·rw [Qu (fun h=>e (by simpa using h))];refine hy.y t' ?_;simp only [afR,xG,cd (show ¬ t'=d from fun h=>e h.symm)] at XT;exact XT
    unfold W6 at hmv;split at hmv
    ·rename_i t m9;exact key t hmv (.inl m9)
    ·rename_i t m9;exact key t hmv (.inr m9)
    ·cases hmv
   ·obtain ⟨z1,z2,z3,F1,O1,z4,z5⟩:=R2 (KP E bN o s) hy.ok hy.sr;have h:evT E bN o (EV s (KP E bN o s)) (fun r=>κ ((bP.next (EV s (KP E bN o s)) r).put o.dst r.v) (Qt Y o.dst)) (fun _=>none)=some z:=h;have hd:pz (EV s (KP E bN o s)) o.dst=true:=by
     cases PA:o.dst with
     | none=>rfl
     | some t=>rw [PA] at hd;simp only [pz,z3] at hd ⊢;exact hd
    refine T5 (VP h) ?_;rcases VL hE z1 h with ⟨r,h1,h2,h3⟩ | ⟨r,_,_,h3⟩
    ·refine Wu h1 z4 fun v w' F' O' bD bY k1 k2 k3=>?_;have IA:=RC z4 z1 h2 k2 k3;have JG:=Jd z1 h2;have NN:pz (bP.next (EV s (KP E bN o s)) r) o.dst=true:=by cases PA:o.dst<;>rw [PA] at hd<;>exact hd
     refine hk z _ _ _ w' F' O' bD bY h3 ⟨Au JG h2.v,by rw [JA];exact z3.trans hy.nt,OE hy.df,by rw [OF];exact HL IA NN k1,Se hy.y,?_⟩;exact xj _ _ _ _ _ _ _ _ _ _ (xj _ _ _ _ _ _ _ _ _ _ hy.j hy.sr.hr.wf3 z4.hr.wf3 z5) z4.hr.wf3 k2.wf3 k3
    ·cases h3
theorem Qv {bN:List CT} {ops:Array Oper} {κ:bP→List Nat→Option (List (zf eR))} {n0:Nat} {Q:Exit→Act→World→Prop} (hE:xm E bN) (xj:YD J) (hrd:OB E.P l eR J):∀ {lo:List Oper} {z:List (zf eR)} {s:bP} {Y:List Nat} {w:World} {F O:Nat→Prop} {μ:Nat→Nat} {ft:Nat→Nat→Prop} {a:Act},
  CH E bN eR ops lo s Y κ=some z→HY J (DG l) n0 z s Y a w F O μ ft→
  (∀ z' s' Y' a' w' F' O' bD bY,κ s' Y'=some z'→HY J (DG l) n0 z' s' Y' a' w' F' O' bD bY→Q .normal a' w')→wpListIn (Wr none) 0 E.P ops Q lo a w
 | [],z,s,Y,w,F,O,μ,ft,a,h,hy,hk=>by
  simp only [CH] at h;exact hk z s Y a w F O μ ft h hy
 | o::rest,z,s,Y,w,F,O,μ,ft,a,h,hy,hk=>by
  simp only [CH] at h;have go:∀ (s0:bP) (b:Bool),LC E bN eR o s0 Y b (fun s Y=>CH E bN eR ops rest s Y κ)=some z→pz s0 o.dst=true→HY J (DG l) n0 z s0 Y a w F O μ ft→Region.wanted o (yielded ops a.tmps)=b→wpListIn (Wr none) 0 E.P ops Q (o::rest) a w:=by
   intro s0 b h0 hd0 hy0 hw0;exact aa6 (ops:=ops) hE xj hrd h0 hd0 hw0 hy0 fun z' s' Y' a' w' F' O' bD bY OU hh=>Qv hE xj hrd OU hh hk
  split at h
  ·rename_i hd;split at h
   ·rename_i hw;exact go s true h hd hy (qe hy.sr hw)
   ·rename_i hw;exact go s false h hd hy (qe hy.sr hw)
   ·rename_i t b c hw;have hl:=H3 hw;have X5:=qe hy.sr hw;simp only at X5;cases b with
    | true=>
     refine go _ c h hd ⟨Jr hy.ok,hy.nt,hy.df,Mo hy.sr hl,hy.y,hy.j⟩ ?_;rw [X5];cases c<;>rfl
    | false=>
     refine go _ (!c) h hd ⟨Jr hy.ok,hy.nt,hy.df,Mo hy.sr hl,hy.y,hy.j⟩ ?_;rw [X5];cases c<;>rfl
   ·cases h
  ·cases h
theorem Ul {f:jS} {Jf:L7 f.eR (Option (List (zf eR)))} {s:bP} {Y:List Nat} {z:List (zf eR)} {n0:Nat} {a:Act} (xj:YD J) (h:Da f 0 Jf s=some z) (hm:xG Y 0=true) (hy:HY J (DG l) n0 z s Y a w F O μ ft):
  ∃ x s',yG f.eR Jf x=some z∧instF n0 f (fo f.eR x)=some s'∧∃ F' O' bD bY,HY J (DG l) n0 z s' [0] a w F' O' bD bY:=by
 obtain ⟨x,s',h1,h2,F',O',bD,bY,hh⟩:=BB (n0:=(s.nt,0)) h hy.ok (Nat.zero_le _) ⟨rfl,fun _ _=>Nat.zero_le _⟩ hy.sr;rw [hy.nt] at h2;refine ⟨x,s',h1,h2,F',O',bD,bY,hh.ok,hh.nt.1.trans hy.nt,hy.df,hh.sr,fun t ht=>?_,xj _ _ _ _ _ _ _ _ _ _ hy.j hy.sr.hr.wf3 hh.sr.hr.wf3 hh.fr⟩;have:t=0:=by
  simp only [xG] at ht;split at ht
  ·rename_i e;exact Nat.eq_of_beq_eq_true e
  ·cases ht
 subst this;exact hy.y 0 hm
theorem acN {bN:Nat→List CT} {A:Ann} {K0:Nat} {n0:Nat} (hE:∀ k,k≤K0→xm E (bN k)) (xj:YD J) (hrd:OB E.P l eR J):∀ (c:Code) (k:Nat) (z:List (zf eR)) (s:bP) (Y:List Nat) (ks:KsY (zf eR)),BD E bN A eR c k s Y ks=some z→k≤K0→
  ∀ {w:World} {F O:Nat→Prop} {μ:Nat→Nat} {ft:Nat→Nat→Prop} {a:Act},HY J (DG l) n0 z s Y a w F O μ ft→c.wpIn (Wr none) 0 E.P (adk ks J (DG l) n0) a w:=by
 intro c
 induction c with
 | skip=>
  intro k z s Y ks h xo w F O μ ft a hy;exact wpIn_skip ⟨z,s,Y,F,O,μ,ft,hy,h⟩
 | label i=>intro k z s Y ks h;simp [BD] at h
 | goto i=>intro k z s Y ks h;simp [BD] at h
 | refuse i=>intro k z s Y ks h;simp [BD] at h
 | scope c ih=>intro k z s Y ks h;simp [BD] at h
 | rangeFunc f p x y ih1 ih2=>intro k z s Y ks h;simp [BD] at h
 | exit id=>
  intro k z s Y ks h xo w F O μ ft a hy;exact wpIn_exit ⟨z,s,Y,F,O,μ,ft,hy,h⟩
 | ret=>
  intro k z s Y ks h xo w F O μ ft a hy;exact wpIn_ret ⟨z,s,Y,F,O,μ,ft,hy,h⟩
 | region id ops draw=>
  intro k z s Y ks h xo w F O μ ft a hy;obtain ⟨ops⟩:=ops;cases draw with
  | false=>
   simp only [BD] at h;exact wpIn_region_list (Qv (hE k xo) xj hrd h hy fun z' s' Y' a' w' F' O' bD bY h1 h2=>⟨z',s',Y',F',O',bD,bY,h2,h1⟩)
  | true=>simp [BD] at h
 | seq x y ihx ihy=>
  intro k z s Y ks h xo w F O μ ft a hy;simp only [BD] at h;refine wpIn_seq (Code.wpIn_mono ?_ (ihx k z s Y _ h xo hy))
  rintro e a' w' ⟨z',s',Y',F',O',bD,bY,hh,hk⟩
  cases e with
  | normal=>exact ihy k z' s' Y' ks hk xo hh
  | _=>exact ⟨z',s',Y',F',O',bD,bY,hh,hk⟩
 | cond c x y ihx ihy=>
  intro k z s Y ks h xo w F O μ ft a hy;simp only [BD] at h;split at h
  ·rename_i b hb;have hv:=bX hb hy.sr;simp only [TA.av,cT] at hv;cases b with
   | true=>exact wpIn_cond_true hv.fe (ihx k z s Y ks h xo hy)
   | false=>exact wpIn_cond_false hv.fe (ihy k z s Y ks h xo hy)
  ·cases h
 | block id c ih=>
  intro k z s Y ks h xo w F O μ ft a hy;simp only [BD] at h;refine wpIn_block (Code.wpIn_mono ?_ (ih k z s Y _ h xo hy))
  rintro e a' w' ⟨z',s',Y',F',O',bD,bY,hh,hk⟩
  cases e with
  | exit b9=>
   simp only [KsY.at] at hk;simp only [Exit.inBlock];split
   ·rename_i e;subst e;rw [Nat.beq_refl] at hk;exact ⟨z',s',Y',F',O',bD,bY,hh,hk⟩
   ·rename_i e;rw [cd e] at hk;exact ⟨z',s',Y',F',O',bD,bY,hh,hk⟩
  | _=>exact ⟨z',s',Y',F',O',bD,bY,hh,hk⟩
 | loop c ih=>
  intro k z s Y ks h xo w F O μ ft a hy;simp only [BD] at h;split at h
  ·rename_i f hf hm;have key:∀ (k:Nat),k≤K0→∀ (z:List (zf eR)) (x:zf f.eR) (s':bP),yG f.eR (iter k fun k' rec=>EY f s.nt fun s'=>BD E bN A eR c k' s' [0] { ks with n:=fun s' Y'=>match xG Y' 0 with
      | true=>Da f 0 rec s'
      | false=>none }) x=some z→instF s.nt f (fo f.eR x)=some s'→
     ∀ {w:World} {F O:Nat→Prop} {μ:Nat→Nat} {ft:Nat→Nat→Prop} {a:Act},HY J (DG l) n0 z s' [0] a w F O μ ft→z_ none E.P c (adk ks J (DG l) n0) a w:=by
    intro k
    induction k with
    | zero=>
     intro _ z x s' h1;simp only [iter] at h1;rw [xH] at h1;cases h1
    | succ k ihk=>
     intro xo z x s' h1 h2 w F O μ ft a hy';simp only [iter] at h1;rw [BC h2] at h1;refine z_.round (Code.wpIn_mono ?_ (ih k z s' _ _ h1 (by omega) hy'))
     rintro e a' w' ⟨z',s2,Y2,F',O',bD,bY,hh,hk⟩
     cases e with
     | normal=>
      simp only [KsY.at] at hk;split at hk
      ·rename_i hm2;obtain ⟨x',s3,k1,k2,F2,O2,Gk,Lt,k3⟩:=Ul xj hk hm2 hh;exact ihk (by omega) z' x' s3 k1 (by rw [hy.nt];exact k2) k3
      ·cases hk
     | _=>exact ⟨z',s2,Y2,F',O',bD,bY,hh,hk⟩
   obtain ⟨x,s',h1,h2,F',O',bD,bY,h3⟩:=Ul xj h hm hy;exact (key k xo z x s' h1 (by rw [hy.nt];exact h2) h3).wp
  ·cases h
end
def afS (E:Env) (bN:Nat→List CT) (A:Ann) (Ay:List wx) (eR:List Ty) (nt:Nat) (code:Code) (k:Nat) (x:zf (DE Ay)):Option (List (zf eR)):=
 match instL id Ay (fo _ x) with
 | some (as,[])=>match Nat.ble (as.length+1) nt&&ltL 0 Ay with
  | true=>BD E bN A eR code k ⟨nt,0,KV 0 (.top::as),[]⟩ [0] ⟨fun _ _=>some [],fun _ _ _=>none,fun _ _=>some []⟩
  | false=>none
 | _=>none
theorem Sl {E:Env} {bN:Nat→List CT} {A:Ann} {c:IT} {fn:Func} {code:Code} (k:Nat) (hE:∀ j,j≤k→xm E (bN j)) (Ug:∀ (xs:Array Value) (w:World),(callFunc c.f xs).run E.P w=.ok (.enter c.f xs) w)
  (hf:E.P.funcs[c.f]?=some fn) (hb:fn.body=some code) (hr:fn.results.toList=[]) (h:c.L=Xl _ (afS E bN A c.Ay c.eR fn.ntmps code k)):JX E.P c:=by
 refine ⟨Ug,fun x xs hx as has w F μ us RA hwf YE l J xj hrd hj=>?_⟩;rw [h,xH] at hx;unfold afS at hx;rw [has] at hx;simp only at hx;split at hx
 ·rename_i hg;simp only [Bool.and_eq_true] at hg;obtain ⟨hn,hl⟩:=hg;have hn:=Nat.le_of_ble_eq_true hn;have hv:iU w F μ (below 0) (er [] (.top::as)) (DG l::us):=by
   simp only [er,TA.av];exact .cons (.top _) ⟨RA.1,fun i hi=>(RA.2 i hi).up⟩
  have hr0:HR w F (fun _=>False) μ (below 0) (xk []) (fun _ _=>False):=
   { lt:=fun id h=>absurd h (by simp [below]),known:=fun id b h=>(by cases h),dC:=fun id b h=>(by cases h),self:=fun id ⟨b,h,_⟩=>(by cases h),own:=fun id _ x h=>h.elim,dj:=fun id b9 ⟨b,h,_⟩=>(by cases h),y9:=fun _ h=>h.elim,wf:=hwf,rR:=fun _ h=>h.elim,pos:=YE }
  have hs:=Ui (nt:=fn.ntmps) (N:=0) hr0 hv (by simpa using hn);have o9:bP.ok ⟨fn.ntmps,0,KV 0 (.top::as),[]⟩:=by
   have hw:=instL_wf (m:=0) (N:=0) (H:=[]) (fun j h=>h) has hl;refine ⟨fun t=>?_,fun id l hl=>by cases hl⟩;show (look (KV 0 (.top::as)) t).wf [] _;rw [KW];split
   ·exact Cy (l:=.top::as) (by simp only [iz,TA.wf];exact ⟨trivial,hw⟩) _
   ·simp only [TA.wf]
  have dT:0 < fn.ntmps:=by omega
  have hy:HY J (DG l) fn.ntmps xs ⟨fn.ntmps,0,KV 0 (.top::as),[]⟩ [0] { tmps:=⟨DG l::us⟩++Array.replicate (fn.ntmps-(⟨DG l::us⟩:Array Value).size) undef,defers:=[] } w F (fun _=>False) μ (fun _ _=>False):=
   ⟨o9,rfl,rfl,hs,fun t ht=>by
    have:t=0:=by
     simp only [xG] at ht;split at ht
     ·rename_i e;exact Nat.eq_of_beq_eq_true e
     ·cases ht
    subst this;simp [Array.getElem?_append],hj⟩
  refine callsIn_of_wp_marks hf hb trivial (Code.wpIn_mono ?_ (acN (fun j hj=>hE j hj) xj hrd code k xs _ _ _ hx (Nat.le_refl _) hy))
  rintro e a' w' ⟨z,s',Y',F',O',bD,bY,hh,hk⟩
  have fin:z=[]→bodyPostM (Wr none) 0 E.P fn (fun e w'=>∃ v F' O',e=.returned v∧J [] w' F' O') .ret a' w':=by
   rintro rfl
   show LeavesInM _ _ _ _ _ _ a'.defers _ _;rw [hh.df];obtain ⟨_,u,k1,_⟩:=OD (P:=E.P) (fn:=fn) hh.ok hh.sr (l:=[]) (by rw [hr];rfl);exact ⟨u,k1,u,F',O',rfl,hh.j⟩
  cases e with
  | normal=>exact fin (by simpa [KsY.at] using hk.symm)
  | ret=>exact fin (by simpa [KsY.at] using hk.symm)
  | exit i=>cases hk
  | goto i=>exact hk.elim
  | panic l=>exact hk.elim
  | outgrown=>exact hk.elim
 ·cases hx
end Go.Proofs.YtjkbbdldmdajkaaGreatDoor.c_
