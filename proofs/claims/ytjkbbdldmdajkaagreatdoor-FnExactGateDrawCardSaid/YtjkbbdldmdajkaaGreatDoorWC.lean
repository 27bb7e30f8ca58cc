/- Functions that are called as they were deferred, and functions that defer one call. No condition. -/
import Derived.Test.YtjkbbdldmdajkaaGreatDoorWA
namespace Go.Proofs.YtjkbbdldmdajkaaGreatDoor.c5
open Go Go.RowKit
variable {w w' ss:World} {F F' zT O O' uo:Nat→Prop} {μ aZ jE:Nat→Nat} {K K' C9:Nat→Prop} {ft bX:Nat→Nat→Prop} {P:Program}
def Qh {α:Type} (y:α) (a b:Option (List α)):Option (List α):=match a,b with
 | some r,some []=>some (y::r)
 | _,_=>none
theorem TP {α:Type} {y:α} {a b:Option (List α)} {z:List α} (h:Qh y a b=some z):∃ r,z=y::r∧a=some r∧b=some []:=by
 unfold Qh at h;split at h
 ·cases h;exact ⟨_,rfl,rfl,rfl⟩
 ·cases h
structure KsY (α:Type) where
 n:bL→List Nat→Option (List α)
 x:Nat→bL→List Nat→Option (List α)
 r:bL→List Nat→Option (List α)
def WO (Y:List Nat) (o:Oper):Option (List Operand):=match o.op with
 | .call ⟨.value (.tmp t),⟨args⟩,_⟩=>match vt Y t with
  | true=>some args
  | false=>none
 | _=>none
def WQ (Y:List Nat) (o:Oper):Bool:=match o.op with
 | .move (.tmp t)=>vt Y t
 | .assign (.tmp t)=>vt Y t
 | _=>false
def P5 (Y:List Nat):Option Nat→List Nat
 | none=>Y
 | some d=>Y.filter fun t=>!Nat.beq t d
def afM (Y:List Nat):Option Nat→List Nat
 | none=>Y
 | some d=>d::Y
def K6 (E:Env) (bJ:List CT) (ey:List Ty) (o:Oper) (s:bL) (Y:List Nat) (b:Bool) (κ:bL→List Nat→Option (List (xP ey))):Option (List (xP ey)):=
 match b with
 | false=>κ (s.put o.dst (.lit undef)) (P5 Y o.dst)
 | true=>match WO Y o with
  | some args=>match BY s.H (ey.map .d) (args.map s.val) ⟨[],[]⟩ with
   | some (⟨[],[]⟩,ds)=>match oj ey ds with
    | some y=>Qh y (κ (s.put o.dst (.d ⟨.bool,true⟩)) (P5 Y o.dst)) (κ (s.put o.dst (.d ⟨.bool,false⟩)) (P5 Y o.dst))
    | none=>none
   | _=>none
  | none=>match WQ Y o with
   | true=>κ (s.put o.dst .top) (afM Y o.dst)
   | false=>match El s (Ke E bJ o s) with
    | ⟨nt,N,tm,H⟩=>evT E bJ o ⟨nt,N,tm,H⟩ (fun r=>κ ((bL.next ⟨nt,N,tm,H⟩ r).put o.dst r.v) (P5 Y o.dst)) (fun _=>none)
def B5 (E:Env) (bJ:List CT) (ey:List Ty) (ops:Array Oper):List Oper→bL→List Nat→(bL→List Nat→Option (List (xP ey)))→Option (List (xP ey))
 | [],s,Y,κ=>κ s Y
 | o::rest,s,Y,κ=>match oL s o.dst with
  | true=>match K4 ops s o with
   | some .yes=>K6 E bJ ey o s Y true fun s Y=>B5 E bJ ey ops rest s Y κ
   | some .no=>K6 E bJ ey o s Y false fun s Y=>B5 E bJ ey ops rest s Y κ
   | some (.on t b c)=>cond b (K6 E bJ ey o (s.En t true) Y c fun s Y=>B5 E bJ ey ops rest s Y κ) (K6 E bJ ey o (s.En t false) Y (!c) fun s Y=>B5 E bJ ey ops rest s Y κ)
   | none=>none
  | false=>none
def AZ (E:Env) (bJ:Nat→List CT) (A:T7) (ey:List Ty):Code→Nat→bL→List Nat→KsY (xP ey)→Option (List (xP ey))
 | .skip,_,s,Y,ks=>ks.n s Y
 | .region _ ⟨ops⟩ false,k,s,Y,ks=>B5 E (bJ k) ey ⟨ops⟩ ops s Y ks.n
 | .seq x y,k,s,Y,ks=>AZ E bJ A ey x k s Y { ks with n:=fun s' Y'=>AZ E bJ A ey y k s' Y' ks }
 | .cond c x y,k,s,Y,ks=>match s.val c with
  | .d ⟨.bool,b⟩=>cond b (AZ E bJ A ey x k s Y ks) (AZ E bJ A ey y k s Y ks)
  | _=>none
 | .block id c,k,s,Y,ks=>AZ E bJ A ey c k s Y { ks with x:=fun i s' Y'=>match Nat.beq i id with
  | true=>ks.n s' Y'
  | false=>ks.x i s' Y' }
 | .loop c,k,s,Y,ks=>match aca A.loop c,vt Y 0 with
  | some f,true=>Cz f 0 (iter k fun k' rec=>Ep f s.nt fun s'=>AZ E bJ A ey c k' s' [0] { ks with n:=fun s' Y'=>match vt Y' 0 with
   | true=>Cz f 0 rec s'
   | false=>none }) s
  | _,_=>none
 | .exit id,_,s,Y,ks=>ks.x id s Y
 | .ret,_,s,Y,ks=>ks.r s Y
 | _,_,_,_,_=>none
structure HY {α:Type} (J:List α→World→(Nat→Prop)→(Nat→Prop)→Prop) (yv:Value) (n0:Nat) (z:List α) (s:bL) (Y:List Nat) (a:Act) (w:World) (F O:Nat→Prop) (μ:Nat→Nat) (ft:Nat→Nat→Prop):Prop where
 ok:s.ok
 nt:s.nt=n0
 df:a.defers=[]
 sr:SR w F O μ (below s.N) s.st ft a
 y:∀ t,vt Y t=true→a.tmps.getD t undef=yv
 j:J z w F O
def KsY.at {α:Type} (ks:KsY α) (z:List α) (e:Exit) (s:bL) (Y:List Nat):Prop:=match e with
 | .normal=>ks.n s Y=some z
 | .exit i=>ks.x i s Y=some z
 | .ret=>ks.r s Y=some z
 | _=>False
def acV {α:Type} (ks:KsY α) (J:List α→World→(Nat→Prop)→(Nat→Prop)→Prop) (yv:Value) (n0:Nat):Exit→Act→World→Prop:=fun e a w=>
 ∃ z s Y F O μ ft,HY J yv n0 z s Y a w F O μ ft∧ks.at z e s Y
theorem Et {d t:Nat}:∀ {Y:List Nat},vt (Y.filter fun t=>!Nat.beq t d) t=true→vt Y t=true∧t≠d
 | [],h=>by cases h
 | i::r,h=>by
  simp only [List.filter_cons] at h;cases e:Nat.beq i d with
  | true=>
   rw [e] at h;obtain ⟨h1,h2⟩:=Et (d:=d) (Y:=r) (by simpa using h);refine ⟨?_,h2⟩;simp only [vt];cases Nat.beq t i<;>simp [h1]
  | false=>
   rw [e] at h;simp only [Bool.not_false,if_true,vt] at h ⊢;cases e2:Nat.beq t i with
   | true=>
    rw [Nat.eq_of_beq_eq_true e2];exact ⟨rfl,Nat.ne_of_beq_eq_false e⟩
   | false=>
    rw [e2] at h;exact Et h
theorem P6 {a:Act} {d:Option Nat} {v:Value} {t:Nat} (h:d≠some t):(a.put d v).tmps.getD t undef=a.tmps.getD t undef:=by
 cases d with
 | none=>rfl
 | some d=>
  have:d≠t:=fun e=>h (by rw [e]);simp [Act.put,Array.getElem?_setIfInBounds_ne this]
theorem RG {Y:List Nat} {a:Act} {d:Option Nat} {v yv:Value} (h:∀ t,vt Y t=true→a.tmps.getD t undef=yv):∀ t,vt (P5 Y d) t=true→(a.put d v).tmps.getD t undef=yv:=fun t ht=>by
 cases d with
 | none=>exact h t ht
 | some d=>
  obtain ⟨h1,h2⟩:=Et ht;rw [P6 (fun e=>h2 (by simpa using e.symm))];exact h t h1
theorem N7 {a:Act} {d:Option Nat} {v:Value} (h:a.defers=[]):(a.put d v).defers=[]:=by cases d<;>exact h
theorem I3 (s:bL) (d:Option Nat) (v:TA):(s.put d v).nt=s.nt:=by cases d<;>rfl
theorem N8 (s:bL) (d:Option Nat) (v:TA):(s.put d v).N=s.N:=by cases d<;>rfl
theorem instL_ds:∀ {ts:List Ty} {ds:List cG} {as:List TA},instL id (ts.map sA.d) ds=some (as,[])→as=ds.map C4
 | [],ds,as,h=>by
  simp only [List.map_nil,instL,Option.some.injEq,Prod.mk.injEq] at h;obtain ⟨h1,h2⟩:=h;subst h1 h2;rfl
 | t::ts,ds,as,h=>by
  simp only [List.map_cons,instL,instP] at h;cases ds with
  | nil=>cases h
  | cons y ds=>
   simp only at h;split at h
   ·rename_i a l h1;split at h1
    ·cases h1;split at h
     ·rename_i bs l' h2;cases h;rw [instL_ds h2];rfl
     ·cases h
    ·cases h1
   ·cases h
section
variable {E:Env} {ey:List Ty} {l:Nat} {J:List (xP ey)→World→(Nat→Prop)→(Nat→Prop)→Prop}
def C5 (l:Nat):Value:=.func (.yield l) ⟨[]⟩ ⟨[]⟩
theorem aaz {bJ:List CT} {o:Oper} {s:bL} {Y:List Nat} {b:Bool} {κ:bL→List Nat→Option (List (xP ey))} {z:List (xP ey)} {n0:Nat} {a:Act} {ops:Array Oper} {Kn:Act→World→Prop} {Q:Exit→Act→World→Prop} (hE:px E bJ) (wo:Yj J) (hrd:N3 E.P l ey J)
  (h:K6 E bJ ey o s Y b κ=some z) (hd:oL s o.dst=true) (hw:Region.wanted o (yielded ops a.tmps)=b) (hy:HY J (C5 l) n0 z s Y a w F O μ ft)
  (hk:∀ z' s' Y' a' w' F' O' aZ bX,κ s' Y'=some z'→HY J (C5 l) n0 z' s' Y' a' w' F' O' aZ bX→Kn a' w'):
  if Region.wanted o (yielded ops a.tmps) then o.wpIn (Wr none) 0 E.P a w Kn Q else (∀ f,o.about E.P w a.eval=some f→(Wr none).fn f)∧Kn (a.put o.dst undef) w:=by
 cases b with
 | false=>
  rw [hw];simp only [K6] at h;simp only [Bool.false_eq_true,if_false];refine ⟨fun _ _=>trivial,hk _ _ _ _ w F O μ ft h ⟨zM hy.ok (by simp only [TA.wf]),by rw [I3];exact hy.nt,N7 hy.df,by rw [N8];exact Ha hy.sr hd (by simp only [TA.av];exact .lit _),RG hy.y,hy.j⟩⟩
 | true=>
  rw [hw];simp only [if_true];simp only [K6] at h;split at h
  ·rename_i args hya;split at h
   ·rename_i ds he;split at h
    ·rename_i y hc;obtain ⟨r,rfl,k1,k2⟩:=TP h;unfold WO at hya;split at hya
     ·rename_i t ahX ts lX;split at hya
      ·rename_i NI;cases hya;have hyv:a.eval (.tmp t)=C5 l:=hy.y t NI;obtain ⟨as,e1,e2⟩:=NZ he;have wJ:=e2 (AP s args hy.sr);rw [instL_ds e1,cW,List.map_map] at wJ;have sy:(ds.map (TA.av [] ∘ C4))=(ew ey y).map cL:=by
        rw [lO hc];exact List.map_congr_left fun q _=>LV [] q
       rw [sy] at wJ;obtain ⟨fn,tmps,x1,x2,kT,Vv⟩:=hrd y r w F O μ _ hy.j hy.sr.hr.wf3 wJ;refine ⟨fun _ _=>trivial,?_⟩;rw [Oper.semAt_eq _ _ _ (by intro c hc';rw [lX] at hc';cases hc')];have hex:(execOp a.eval o).run E.P w=.ok (.round l fn tmps x1 x2) w:=by
        simp only [execOp,lX,resolve,hyv,C5,Deferred.ofValue,Sem.run_bind,Sem.run_pure,Result.andThen_ok,invoke];simpa using kT
       rw [hex];refine ⟨(fun h=>by cases h),RoundIn.mono Vv ?_⟩
       rintro e w' ⟨b,rfl,kp,hj⟩
       have fJ:SR w' F O μ (below s.N) s.st ft a:=⟨hy.sr.hr.kp kp,hy.sr.nt,fun t=>(hy.sr.tm t).kp hy.sr.hr kp,by rw [hy.df];exact qj.nil⟩;cases b with
       | true=>exact hk r _ _ _ w' F O μ ft k1 ⟨zM hy.ok (by simp only [TA.wf]),by rw [I3];exact hy.nt,N7 hy.df,by rw [N8];exact Ha fJ hd (by simp only [TA.av,cL];exact .bool _),RG hy.y,hj⟩
       | false=>exact hk [] _ _ _ w' F O μ ft k2 ⟨zM hy.ok (by simp only [TA.wf]),by rw [I3];exact hy.nt,N7 hy.df,by rw [N8];exact Ha fJ hd (by simp only [TA.av,cL];exact .bool _),RG hy.y,hj⟩
      ·cases hya
     ·cases hya
    ·cases h
   ·cases h
  ·split at h
   ·rename_i hmv;have key:∀ t,vt Y t=true→(o.op=.move (.tmp t)∨o.op=.assign (.tmp t))→o.wpIn (Wr none) 0 E.P a w Kn Q:=by
     intro t hm lX;refine TB (fun c hc=>by rcases lX with e | e<;>rw [e] at hc<;>cases hc) ?_;unfold Oper.wp;have hex:(execOp a.eval o).run E.P w=.ok (.value (a.eval (.tmp t))) w:=by rcases lX with e | e<;>simp [execOp,e]
     rw [hex,Oper.upon_value];refine hk z _ _ _ w F O μ ft h ⟨zM hy.ok (by simp only [TA.wf]),by rw [I3];exact hy.nt,N7 hy.df,by rw [N8];exact Ha hy.sr hd (by simp only [TA.av];exact .top _),fun t' Xy=>?_,hy.j⟩;have hyv:a.eval (.tmp t)=C5 l:=hy.y t hm;cases Ly:o.dst with
     | none=>rw [Ly] at Xy;exact hy.y t' Xy
     | some d=>
      rw [Ly] at Xy hd;by_cases e:d=t'
      ·subst e;have dY:d < a.tmps.size:=by rw [hy.sr.nt];exact Nat.le_of_ble_eq_true hd
       rw [hyv];simp [Act.put,dY]
      ·rw [P6 (fun h=>e (by simpa using h))];refine hy.y t' ?_;simp only [afM,vt,cb (show ¬ t'=d from fun h=>e h.symm)] at Xy;exact Xy
    unfold WQ at hmv;split at hmv
    ·rename_i t lX;exact key t hmv (.inl lX)
    ·rename_i t lX;exact key t hmv (.inr lX)
    ·cases hmv
   ·obtain ⟨z1,z2,z3,F1,O1,z4,z5⟩:=Rt (Ke E bJ o s) hy.ok hy.sr;have h:evT E bJ o (El s (Ke E bJ o s)) (fun r=>κ ((bL.next (El s (Ke E bJ o s)) r).put o.dst r.v) (P5 Y o.dst)) (fun _=>none)=some z:=h;have hd:oL (El s (Ke E bJ o s)) o.dst=true:=by
     cases Ly:o.dst with
     | none=>rfl
     | some t=>rw [Ly] at hd;simp only [oL,z3] at hd ⊢;exact hd
    refine TB (Vo h) ?_;rcases Vk hE z1 h with ⟨r,h1,h2,h3⟩ | ⟨r,_,_,h3⟩
    ·refine Wc h1 z4 fun v w' F' O' aZ bX k1 k2 k3=>?_;have H3:=LM z4 z1 h2 k2 k3;have I_:=EL z1 h2;have Nf:oL (bL.next (El s (Ke E bJ o s)) r) o.dst=true:=by cases Ly:o.dst<;>rw [Ly] at hd<;>exact hd
     refine hk z _ _ _ w' F' O' aZ bX h3 ⟨zM I_ h2.v,by rw [I3];exact z3.trans hy.nt,N7 hy.df,by rw [N8];exact Ha H3 Nf k1,RG hy.y,?_⟩;exact wo _ _ _ _ _ _ _ _ _ _ (wo _ _ _ _ _ _ _ _ _ _ hy.j hy.sr.hr.wf3 z4.hr.wf3 z5) z4.hr.wf3 k2.wf3 k3
    ·cases h3
theorem P7 {bJ:List CT} {ops:Array Oper} {κ:bL→List Nat→Option (List (xP ey))} {n0:Nat} {Q:Exit→Act→World→Prop} (hE:px E bJ) (wo:Yj J) (hrd:N3 E.P l ey J):∀ {lo:List Oper} {z:List (xP ey)} {s:bL} {Y:List Nat} {w:World} {F O:Nat→Prop} {μ:Nat→Nat} {ft:Nat→Nat→Prop} {a:Act},
  B5 E bJ ey ops lo s Y κ=some z→HY J (C5 l) n0 z s Y a w F O μ ft→
  (∀ z' s' Y' a' w' F' O' aZ bX,κ s' Y'=some z'→HY J (C5 l) n0 z' s' Y' a' w' F' O' aZ bX→Q .normal a' w')→wpListIn (Wr none) 0 E.P ops Q lo a w
 | [],z,s,Y,w,F,O,μ,ft,a,h,hy,hk=>by
  simp only [B5] at h;exact hk z s Y a w F O μ ft h hy
 | o::rest,z,s,Y,w,F,O,μ,ft,a,h,hy,hk=>by
  simp only [B5] at h;have go:∀ (s0:bL) (b:Bool),K6 E bJ ey o s0 Y b (fun s Y=>B5 E bJ ey ops rest s Y κ)=some z→oL s0 o.dst=true→HY J (C5 l) n0 z s0 Y a w F O μ ft→Region.wanted o (yielded ops a.tmps)=b→wpListIn (Wr none) 0 E.P ops Q (o::rest) a w:=by
   intro s0 b h0 hd0 hy0 hw0;exact aaz (ops:=ops) hE wo hrd h0 hd0 hw0 hy0 fun z' s' Y' a' w' F' O' aZ bX Ho hh=>P7 hE wo hrd Ho hh hk
  split at h
  ·rename_i hd;split at h
   ·rename_i hw;exact go s true h hd hy (nN hy.sr hw)
   ·rename_i hw;exact go s false h hd hy (nN hy.sr hw)
   ·rename_i t b c hw;have hl:=Hn hw;have XK:=nN hy.sr hw;simp only at XK;cases b with
    | true=>
     refine go _ c h hd ⟨IV hy.ok,hy.nt,hy.df,LW hy.sr hl,hy.y,hy.j⟩ ?_;rw [XK];cases c<;>rfl
    | false=>
     refine go _ (!c) h hd ⟨IV hy.ok,hy.nt,hy.df,LW hy.sr hl,hy.y,hy.j⟩ ?_;rw [XK];cases c<;>rfl
   ·cases h
  ·cases h
theorem TQ {f:jC} {Jf:LA f.ey (Option (List (xP ey)))} {s:bL} {Y:List Nat} {z:List (xP ey)} {n0:Nat} {a:Act} (wo:Yj J) (h:Cz f 0 Jf s=some z) (hm:vt Y 0=true) (hy:HY J (C5 l) n0 z s Y a w F O μ ft):
  ∃ x s',xQ f.ey Jf x=some z∧instF n0 f (ew f.ey x)=some s'∧∃ F' O' aZ bX,HY J (C5 l) n0 z s' [0] a w F' O' aZ bX:=by
 obtain ⟨x,s',h1,h2,F',O',aZ,bX,hh⟩:=AX (n0:=⟨s.nt,0,false,[]⟩) h hy.ok (Nat.zero_le _) ⟨rfl,fun _ _=>⟨Nat.zero_le _,rfl⟩,by rw [hy.df];rfl⟩ hy.sr;rw [hy.nt] at h2;refine ⟨x,s',h1,h2,F',O',aZ,bX,hh.ok,hh.nt.1.trans hy.nt,hy.df,hh.sr,fun t ht=>?_,wo _ _ _ _ _ _ _ _ _ _ hy.j hy.sr.hr.wf3 hh.sr.hr.wf3 hh.fr⟩;have:t=0:=by
  simp only [vt] at ht;split at ht
  ·rename_i e;exact Nat.eq_of_beq_eq_true e
  ·cases ht
 subst this;exact hy.y 0 hm
theorem acm {bJ:Nat→List CT} {A:T7} {K0:Nat} {n0:Nat} (hE:∀ k,k≤K0→px E (bJ k)) (wo:Yj J) (hrd:N3 E.P l ey J):∀ (c:Code) (k:Nat) (z:List (xP ey)) (s:bL) (Y:List Nat) (ks:KsY (xP ey)),AZ E bJ A ey c k s Y ks=some z→k≤K0→
  ∀ {w:World} {F O:Nat→Prop} {μ:Nat→Nat} {ft:Nat→Nat→Prop} {a:Act},HY J (C5 l) n0 z s Y a w F O μ ft→c.wpIn (Wr none) 0 E.P (acV ks J (C5 l) n0) a w:=by
 intro c
 induction c with
 | skip=>
  intro k z s Y ks h wu w F O μ ft a hy;exact wpIn_skip ⟨z,s,Y,F,O,μ,ft,hy,h⟩
 | label i=>intro k z s Y ks h;simp [AZ] at h
 | goto i=>intro k z s Y ks h;simp [AZ] at h
 | refuse i=>intro k z s Y ks h;simp [AZ] at h
 | scope c ih=>intro k z s Y ks h;simp [AZ] at h
 | rangeFunc f p x y ih1 ih2=>intro k z s Y ks h;simp [AZ] at h
 | exit id=>
  intro k z s Y ks h wu w F O μ ft a hy;exact wpIn_exit ⟨z,s,Y,F,O,μ,ft,hy,h⟩
 | ret=>
  intro k z s Y ks h wu w F O μ ft a hy;exact wpIn_ret ⟨z,s,Y,F,O,μ,ft,hy,h⟩
 | region id ops draw=>
  intro k z s Y ks h wu w F O μ ft a hy;obtain ⟨ops⟩:=ops;cases draw with
  | false=>
   simp only [AZ] at h;exact wpIn_region_list (P7 (hE k wu) wo hrd h hy fun z' s' Y' a' w' F' O' aZ bX h1 h2=>⟨z',s',Y',F',O',aZ,bX,h2,h1⟩)
  | true=>simp [AZ] at h
 | seq x y ihx ihy=>
  intro k z s Y ks h wu w F O μ ft a hy;simp only [AZ] at h;refine wpIn_seq (Code.wpIn_mono ?_ (ihx k z s Y _ h wu hy))
  rintro e a' w' ⟨z',s',Y',F',O',aZ,bX,hh,hk⟩
  cases e with
  | normal=>exact ihy k z' s' Y' ks hk wu hh
  | _=>exact ⟨z',s',Y',F',O',aZ,bX,hh,hk⟩
 | cond c x y ihx ihy=>
  intro k z s Y ks h wu w F O μ ft a hy;simp only [AZ] at h;split at h
  ·rename_i b hb;have hv:=bY hb hy.sr;simp only [TA.av,cL] at hv;cases b with
   | true=>exact wpIn_cond_true hv.eR (ihx k z s Y ks h wu hy)
   | false=>exact wpIn_cond_false hv.eR (ihy k z s Y ks h wu hy)
  ·cases h
 | block id c ih=>
  intro k z s Y ks h wu w F O μ ft a hy;simp only [AZ] at h;refine wpIn_block (Code.wpIn_mono ?_ (ih k z s Y _ h wu hy))
  rintro e a' w' ⟨z',s',Y',F',O',aZ,bX,hh,hk⟩
  cases e with
  | exit b9=>
   simp only [KsY.at] at hk;simp only [Exit.inBlock];split
   ·rename_i e;subst e;rw [Nat.beq_refl] at hk;exact ⟨z',s',Y',F',O',aZ,bX,hh,hk⟩
   ·rename_i e;rw [cb e] at hk;exact ⟨z',s',Y',F',O',aZ,bX,hh,hk⟩
  | _=>exact ⟨z',s',Y',F',O',aZ,bX,hh,hk⟩
 | loop c ih=>
  intro k z s Y ks h wu w F O μ ft a hy;simp only [AZ] at h;split at h
  ·rename_i f hf hm;have key:∀ (k:Nat),k≤K0→∀ (z:List (xP ey)) (x:xP f.ey) (s':bL),xQ f.ey (iter k fun k' rec=>Ep f s.nt fun s'=>AZ E bJ A ey c k' s' [0] { ks with n:=fun s' Y'=>match vt Y' 0 with
      | true=>Cz f 0 rec s'
      | false=>none }) x=some z→instF s.nt f (ew f.ey x)=some s'→
     ∀ {w:World} {F O:Nat→Prop} {μ:Nat→Nat} {ft:Nat→Nat→Prop} {a:Act},HY J (C5 l) n0 z s' [0] a w F O μ ft→zo none E.P c (acV ks J (C5 l) n0) a w:=by
    intro k
    induction k with
    | zero=>
     intro _ z x s' h1;simp only [iter] at h1;rw [qJ] at h1;cases h1
    | succ k ihk=>
     intro wu z x s' h1 h2 w F O μ ft a hy';simp only [iter] at h1;rw [AY h2] at h1;refine zo.round (Code.wpIn_mono ?_ (ih k z s' _ _ h1 (by omega) hy'))
     rintro e a' w' ⟨z',s2,Y2,F',O',aZ,bX,hh,hk⟩
     cases e with
     | normal=>
      simp only [KsY.at] at hk;split at hk
      ·rename_i hm2;obtain ⟨x',s3,k1,k2,F2,O2,zl,EJ,k3⟩:=TQ wo hk hm2 hh;exact ihk (by omega) z' x' s3 k1 (by rw [hy.nt];exact k2) k3
      ·cases hk
     | _=>exact ⟨z',s2,Y2,F',O',aZ,bX,hh,hk⟩
   obtain ⟨x,s',h1,h2,F',O',aZ,bX,h3⟩:=TQ wo h hm hy;exact (key k wu z x s' h1 (by rw [hy.nt];exact h2) h3).wp
  ·cases h
end
def afN (E:Env) (bJ:Nat→List CT) (A:T7) (zQ:List sA) (ey:List Ty) (nt:Nat) (code:Code) (k:Nat) (x:xP (zN zQ)):Option (List (xP ey)):=
 match instL id zQ (ew _ x) with
 | some (as,[])=>match Nat.ble (as.length+1) nt&&Wq 0 zQ with
  | true=>AZ E bJ A ey code k ⟨nt,0,Hv 0 (.top::as),[]⟩ [0] ⟨fun _ _=>some [],fun _ _ _=>none,fun _ _=>some []⟩
  | false=>none
 | _=>none
theorem RP {E:Env} {bJ:Nat→List CT} {A:T7} {c:IT} {fn:Func} {code:Code} (k:Nat) (hE:∀ j,j≤k→px E (bJ j)) (Cx:∀ (xs:Array Value) (w:World),(callFunc c.f xs).run E.P w=.ok (.enter c.f xs) w)
  (hf:E.P.funcs[c.f]?=some fn) (hb:fn.body=some code) (hr:fn.results.toList=[]) (h:c.L=RS _ (afN E bJ A c.zQ c.ey fn.ntmps code k)):Gu E.P c:=by
 refine ⟨Cx,fun x xs hx as has w F μ us Q4 hwf Yl l J wo hrd hj=>?_⟩;rw [h,qJ] at hx;unfold afN at hx;rw [has] at hx;simp only at hx;split at hx
 ·rename_i hg;simp only [Bool.and_eq_true] at hg;obtain ⟨hn,hl⟩:=hg;have hn:=Nat.le_of_ble_eq_true hn;have hv:gZ w F μ (below 0) (di [] (.top::as)) (C5 l::us):=by
   simp only [di,TA.av];exact .cons (.top _) ⟨Q4.1,fun i hi=>(Q4.2 i hi).up⟩
  have hr0:HR w F (fun _=>False) μ (below 0) (sx []) (fun _ _=>False):=
   { lt:=fun id h=>absurd h (by simp [below]),known:=fun id b h=>(by cases h),du:=fun id b h=>(by cases h),self:=fun id ⟨b,h,_⟩=>(by cases h),own:=fun id _ x h=>h.elim,dj:=fun id b9 ⟨b,h,_⟩=>(by cases h),yl:=fun _ h=>h.elim,wf:=hwf,qS:=fun _ h=>h.elim,pos:=Yl }
  have hs:=TN (nt:=fn.ntmps) (N:=0) hr0 hv (by simpa using hn);have u9:bL.ok ⟨fn.ntmps,0,Hv 0 (.top::as),[]⟩:=by
   have hw:=instL_wf (m:=0) (N:=0) (H:=[]) (fun j h=>h) has hl;refine ⟨fun t=>?_,fun id l hl=>by cases hl⟩;show (look (Hv 0 (.top::as)) t).wf [] _;rw [Km];split
   ·exact BT (l:=.top::as) (by simp only [hU,TA.wf];exact ⟨trivial,hw⟩) _
   ·simp only [TA.wf]
  have dY:0 < fn.ntmps:=by omega
  have hy:HY J (C5 l) fn.ntmps xs ⟨fn.ntmps,0,Hv 0 (.top::as),[]⟩ [0] { tmps:=⟨C5 l::us⟩++Array.replicate (fn.ntmps-(⟨C5 l::us⟩:Array Value).size) undef,defers:=[] } w F (fun _=>False) μ (fun _ _=>False):=
   ⟨u9,rfl,rfl,hs,fun t ht=>by
    have:t=0:=by
     simp only [vt] at ht;split at ht
     ·rename_i e;exact Nat.eq_of_beq_eq_true e
     ·cases ht
    subst this;simp [Array.getElem?_append],hj⟩
  refine callsIn_of_wp_marks hf hb trivial (Code.wpIn_mono ?_ (acm (fun j hj=>hE j hj) wo hrd code k xs _ _ _ hx (Nat.le_refl _) hy))
  rintro e a' w' ⟨z,s',Y',F',O',aZ,bX,hh,hk⟩
  have fin:z=[]→bodyPostM (Wr none) 0 E.P fn (fun e w'=>∃ v F' O',e=.returned v∧J [] w' F' O') .ret a' w':=by
   rintro rfl
   show LeavesInM _ _ _ _ _ _ a'.defers _ _;rw [hh.df];obtain ⟨_,u,k1,_⟩:=N5 (P:=E.P) (fn:=fn) hh.ok hh.sr (l:=[]) (by rw [hr];rfl);exact ⟨u,k1,u,F',O',rfl,hh.j⟩
  cases e with
  | normal=>exact fin (by simpa [KsY.at] using hk.symm)
  | ret=>exact fin (by simpa [KsY.at] using hk.symm)
  | exit i=>cases hk
  | goto i=>exact hk.elim
  | panic l=>exact hk.elim
  | outgrown=>exact hk.elim
 ·cases hx
end Go.Proofs.YtjkbbdldmdajkaaGreatDoor.c5
namespace Go.Proofs.YtjkbbdldmdajkaaGreatDoor.c5
open Go Go.RowKit
variable {w w' ss:World} {F F' zT O O' uo:Nat→Prop} {μ aZ jE:Nat→Nat} {K K' C9:Nat→Prop} {ft bX:Nat→Nat→Prop} {P:Program} {R:Type}
def acW (P:Program) (u:FrameMode):Nc:=fun f xs w R=>CallsDIn (Wr none) 0 P f xs u w fun e u' w'=>u'=u∧R e w'
theorem aaA {u:FrameMode}:(acW P u).up:=fun _ _ _ _ _ h k=>h.mono fun _ _ _ ⟨a,b⟩=>⟨a,k _ _ b⟩
def ac7 (P:Program) (c:CT):Prop:=∀ u,ad6 (acW P u) P c
theorem Ym {n0:N0} {s:bL} {a:Act} {m0:Nat} (hh:tL w F O μ m0 n0 s a w' F' O' aZ bX) (hb:n0.base=[]) (hn:n0.nf=true):a.defers=[]:=by
 have e:=BK (hh.nt.2.2.trans hb);cases hd:a.defers with
 | nil=>rfl
 | cons d r=>
  obtain ⟨b,h1,_⟩:=hh.sr.df.all d (by rw [e,hd];simp);have:=(hh.nt.2.1 b (by rw [← h1,hd];simp)).2;rw [hn] at this;cases this
theorem RQ {E:Env} {bJ:Nat→List CT} {A:T7} {c:CT} {fn:Func} {code:Code} (k:Nat) (hE:∀ j,j≤k→px E (bJ j)) (hI:∀ j,j≤k→Yk E.P (A.it j)) (bF:E.P.follows .mixedOrders=true)
  (Cx:∀ (xs:Array Value) (w:World),(callFunc c.f xs).run E.P w=.ok (.enter c.f xs) w) (hf:E.P.funcs[c.f]?=some fn) (hb:fn.body=some code) (On:tP code=true)
  (h:c.F=RS _ (acj E bJ A c.args c.cE c.outs fn.ntmps fn.results.toList code k)) (hm:c.outs.all (fun a=>Nat.ble c.cE.length a.cE.length)=true):ac7 E.P c:=by
 intro u x o ho as l H h1 h2 v r H' h3 h4;rw [h,qJ] at ho;refine ⟨Nat.le_of_ble_eq_true (List.all_eq_true.1 hm _ (AT (X:=Unit) c.outs o)),Cx,fun w F O μ ft gp x7 hr=>?_⟩;refine callsDIn_of_wp (F:=Wr none) (n:=0) hf hb trivial (Code.wpIn_mono ?_ (WN true hE hI bF (.inr On) ho h1 h2 x7 hr))
 rintro e a' w' ⟨s',F',O',aZ,bX,hh,hk⟩
 have hd:=Ym hh rfl rfl;cases e with
 | normal=>
  obtain ⟨u,k1,k2⟩:=I2 hh.ok hh.le hh.sr h3 h4 hk;exact ⟨hd,u,k1,k2.back hh.fr.trans⟩
 | ret=>
  obtain ⟨u,k1,k2⟩:=I2 hh.ok hh.le hh.sr h3 h4 hk;exact ⟨hd,u,k1,k2.back hh.fr.trans⟩
 | panic l=>
  obtain ⟨u,va,rfl,hp,hw,hv⟩:=hk;exact ⟨hd,(WM hh.ok hh.le hh.sr h3 h4 hp hw hv).back hh.fr.trans⟩
 | exit i=>cases hk
 | goto l=>exact hk.elim
 | outgrown=>exact hk.elim
def P8:List Oper→Option (List Oper×Oper×Nat)
 | []=>none
 | [o]=>match o.op with
  | .defer ⟨.value (.tmp t),⟨[]⟩,_⟩=>some ([],o,t)
  | _=>none
 | o::r=>match P8 r with
  | some (p,d,t)=>some (o::p,d,t)
  | none=>none
theorem TR:∀ {l p:List Oper} {d:Oper} {t:Nat},P8 l=some (p,d,t)→l=p++[d]∧∃ ty,d.op=.defer ⟨.value (.tmp t),⟨[]⟩,ty⟩
 | [],p,d,t,h=>by cases h
 | [o],p,d,t,h=>by
  simp only [P8] at h;split at h
  ·rename_i ty he;cases h;exact ⟨rfl,ty,he⟩
  ·cases h
 | o::q::r,p,d,t,h=>by
  simp only [P8] at h;split at h
  ·rename_i p' d' t' h';cases h;obtain ⟨h1,h2⟩:=TR h';exact ⟨by rw [h1];rfl,h2⟩
  ·cases h
def RH:Code→Option (List Oper×List Oper×Oper×Nat)
 | .region _ ⟨ops⟩ false=>match P8 ops with
  | some q=>some (ops,q)
  | none=>none
 | _=>none
theorem VC {x:Code} {ops p:List Oper} {d:Oper} {t:Nat} (h:RH x=some (ops,p,d,t)):∃ id,x=.region id ⟨ops⟩ false∧P8 ops=some (p,d,t):=by
 unfold RH at h;split at h
 ·rename_i id l;split at h
  ·rename_i q hq;cases h;exact ⟨id,rfl,hq⟩
  ·cases h
 ·cases h
def aaB:List TA→Bool
 | []=>true
 | .bp _ _::r=>aaB r
 | _=>false
theorem TS {H H':List (Nat×aX)}:∀ {l:List TA},aaB l=true→di H l=di H' l
 | [],_=>rfl
 | .bp i o::r,h=>by
  simp only [di,TA.av];exact congrArg (AV.bp i o::·) (TS h)
 | .ow _::_,h | .top::_,h | .lit _::_,h | .d _::_,h | .fb::_,h | .fp _ _ _::_,h | .bs _ _ _::_,h | .mp _::_,h | .rp _ _ _::_,h | .agg _::_,h | .rb _ _::_,h | .ov _::_,h | .oR _ _::_,h | .fn _ _ _::_,h=>by cases h
def Yn (dc:CT) (f:FuncId) (as:List TA) (fin:bL→Option R) (s:bL):Option R:=match Nat.beq dc.f f with
 | true=>J9 dc s as (fun r=>fin (s.next r)) (fun _=>none)
 | false=>none
theorem Yo {dc:CT} {f:FuncId} {as:List TA} {fin:bL→Option R} {s:bL} {z:R} (h:Yn dc f as fin s=some z):dc.f=f∧J9 dc s as (fun r=>fin (s.next r)) (fun _=>none)=some z:=by
 unfold Yn at h;split at h
 ·rename_i hb;exact ⟨Nat.eq_of_beq_eq_true hb,h⟩
 ·cases h
def aaC (E:Env) (bJ:Nat→List CT) (A:T7) (dc:CT) (m k:Nat) (fin:bL→Option R):Code→bL→Option R
 | .seq x y,s=>match RH x with
  | some (ops,p,d,t)=>Eo E (bJ k) ⟨ops⟩ p s (fun s=>match K4 ⟨ops⟩ s d,d.dst,look s.tm t with
   | some .yes,none,.fn (.func f) [] cs=>match aaB cs with
    | true=>den E bJ A s.N y k s ⟨Yn dc f cs fin,fun _ _=>none,Yn dc f cs fin,fun _ _=>none⟩
    | false=>none
   | _,_,_=>none) (fun _ _=>none)
  | none=>den E bJ A m x k s ⟨aaC E bJ A dc m k fin y,fun _ _=>none,fin,fun _ _=>none⟩
 | _,_=>none
def I4 (dc:CT) (fin:bL→Option R) (z:R) (w:World) (F O:Nat→Prop) (μ:Nat→Nat) (m0:Nat) (n0:N0):Exit→Act→World→Prop:=fun e a' w'=>(e=.normal∨e=.ret)∧
 ((∃ s' F' O' aZ bX,tL w F O μ m0 n0 s' a' w' F' O' aZ bX∧fin s'=some z)∨
  (∃ f cs us s' F' O' aZ bX,tL w F O μ m0 { n0 with base:=⟨.fn (.func f) ⟨us⟩,#[]⟩::n0.base } s' a' w' F' O' aZ bX∧gZ w' F' aZ (below s'.N) (di s'.H cs) us∧Yn dc f cs fin s'=some z))
theorem I4.trans {dc:CT} {fin:bL→Option R} {z:R} {m0:Nat} {n0:N0} (hf:Fr w F O μ (below m0) w' F' O' aZ) (e:Exit) (a:Act) (ss:World) (h:I4 dc fin z w' F' O' aZ m0 n0 e a ss):I4 dc fin z w F O μ m0 n0 e a ss:=by
 obtain ⟨he,⟨s',F2,O2,zl,EJ,h1,h2⟩ | ⟨f,cs,us,s',F2,O2,zl,EJ,h1,h2⟩⟩:=h
 ·exact ⟨he,.inl ⟨s',F2,O2,zl,EJ,h1.trans hf,h2⟩⟩
 ·exact ⟨he,.inr ⟨f,cs,us,s',F2,O2,zl,EJ,h1.trans hf,h2⟩⟩
theorem acn {E:Env} {bJ:Nat→List CT} {A:T7} {dc:CT} {fin:bL→Option R} {z:R} {k:Nat} (hE:∀ j,j≤k→px E (bJ j)) (hI:∀ j,j≤k→∀ c,c∈A.it j→Gu E.P c) (bF:E.P.follows .mixedOrders=true) {m0:Nat} {n0:N0} (YH:n0.nf=false):∀ (c:Code) (s:bL),aaC E bJ A dc m0 k fin c s=some z→s.ok→m0≤s.N→
  ∀ {w:World} {F O:Nat→Prop} {μ:Nat→Nat} {ft:Nat→Nat→Prop} {a:Act},n0.lo≤w.heap.size→LX n0 s a→SR w F O μ (below s.N) s.st ft a→c.wpIn (Wr none) 0 E.P (I4 dc fin z w F O μ m0 n0) a w:=by
 intro c
 induction c with
 | seq x y _ ihy=>
  intro s h ho hm w F O μ ft a fh hn hs;simp only [aaC] at h;split at h
  ·rename_i ops p d t hx;obtain ⟨id,rfl,hl⟩:=VC hx;obtain ⟨TT,ty,lX⟩:=TR hl;refine wpIn_seq (wpIn_region_list ?_);have key:=Kf (E:=E) (ops:=⟨ops⟩) (l:=p) (tl:=[d]) (ro:=none) (Q:=Exit.then (y.wpIn (Wr none) 0 E.P (I4 dc fin z w F O μ m0 n0)) (I4 dc fin z w F O μ m0 n0)) (hE k (Nat.le_refl _)) h ho hm hn hs (fun s1 a1 w1 F1 O1 Hz S3 Ho hh=>?_) (fun v u s' a' w' F' O' aZ bX h1 _ _ _=>by cases h1)
   ·rw [← TT] at key;exact key
   ·split at Ho
    ·rename_i f cs hwn Ly hlk;split at Ho
     ·rename_i hbp;have acX:=nN hh.sr hwn;simp only at acX;have hv:VR w1 F1 Hz (below s1.N) ((look s1.tm t).av s1.H) (a1.tmps.getD t undef):=hh.sr.tm t;rw [hlk] at hv;simp only [TA.av] at hv;obtain ⟨vs,us,e1,e2,e3⟩:=hv.G7;have e4:=e2;simp only [di] at e4;have:=e4.gY;subst this;show if Region.wanted d (yielded ⟨ops⟩ a1.tmps) then d.wpIn (Wr none) 0 E.P a1 w1 _ _ else _
      rw [if_pos acX];refine ⟨fun _ _=>trivial,?_⟩;have ahw:(Oper.semAt (Wr none).round a1.eval d).run E.P w1=.ok (.defer ⟨.fn (.func f) ⟨us⟩,#[]⟩) w1:=by
       show (execOp a1.eval d).run E.P w1=_;simp only [execOp,lX];simp [resolve,Act.eval,e1,Deferred.ofValue]
      rw [ahw,Oper.uponIn_defer];rw [Ly];show y.wpIn (Wr none) 0 E.P (I4 dc fin z w F O μ m0 n0) { a1 with defers:=⟨.fn (.func f) ⟨us⟩,#[]⟩::a1.defers } w1;have ahx:SR w1 F1 O1 Hz (below s1.N) s1.st S3 { a1 with defers:=⟨.fn (.func f) ⟨us⟩,#[]⟩::a1.defers }:=⟨hh.sr.hr,hh.sr.nt,hh.sr.tm,hh.sr.df⟩;have ahy:LX { n0 with base:=⟨.fn (.func f) ⟨us⟩,#[]⟩::n0.base } s1 { a1 with defers:=⟨.fn (.func f) ⟨us⟩,#[]⟩::a1.defers }:=by
       refine ⟨hh.nt.1,fun b hb=>hh.nt.2.1 b ?_,?_⟩
       ·rcases List.mem_cons.1 hb with e | e
        ·cases e
        ·exact e
       ·show wk (_::a1.defers)=_;rw [← hh.nt.2.2];rfl
      refine Code.wpIn_mono ?_ (Vx hE hI bF y s1.N { n0 with base:=⟨.fn (.func f) ⟨us⟩,#[]⟩::n0.base } none k s1 _ Ho (.inl ⟨rfl,YH⟩) (Nat.le_refl _) hh.ok (Nat.le_refl _) (Nat.le_trans fh hh.fr.size) ahy ahx)
      rintro e a2 w2 ⟨s2,F2,O2,zl,EJ,YJ,hk⟩
      have vq:Yn dc f cs fin s2=some z→(e=.normal∨e=.ret)→I4 dc fin z w F O μ m0 n0 e a2 w2:=fun hr he=>by
       refine ⟨he,.inr ⟨f,cs,us,s2,F2,O2,zl,EJ,⟨YJ.ok,Nat.le_trans hh.le YJ.le,YJ.nt,YJ.sr,hh.fr.trans (YJ.fr.LH fun id (bZ:id < m0)=>Nat.lt_of_lt_of_le bZ hh.le)⟩,?_,hr⟩⟩;rw [TS (H:=s2.H) (H':=s1.H) hbp];exact ⟨e3.1,fun i hi=>(e3.2 i hi).step hh.sr.hr YJ.fr fun id (bZ:id < s1.N)=>Nat.lt_of_lt_of_le bZ YJ.le⟩
      cases e with
      | normal=>exact vq hk (.inl rfl)
      | ret=>exact vq hk (.inr rfl)
      | exit i=>cases hk
      | goto l=>exact hk.elim
      | panic l=>obtain ⟨_,_,_,h,_⟩:=hk;cases h
      | outgrown=>exact hk.elim
     ·cases Ho
    ·cases Ho
  ·refine wpIn_seq (Code.wpIn_mono ?_ (Vx hE hI bF x m0 n0 none k s _ h (.inl ⟨rfl,YH⟩) (Nat.le_refl _) ho hm fh hn hs))
   rintro e a' w' ⟨s',F',O',aZ,bX,hh,hk⟩
   cases e with
   | normal=>exact Code.wpIn_mono (I4.trans hh.fr) (ihy s' hk hh.ok hh.le (Nat.le_trans fh hh.fr.size) hh.nt hh.sr)
   | ret=>exact ⟨.inr rfl,.inl ⟨s',F',O',aZ,bX,hh,hk⟩⟩
   | exit i=>cases hk
   | goto l=>exact hk.elim
   | panic l=>obtain ⟨_,_,_,h,_⟩:=hk;cases h
   | outgrown=>exact hk.elim
 | _=>intro s h;simp only [aaC] at h;cases h
def acY (E:Env) (bJ:Nat→List CT) (A:T7) (dc:CT) (args:List sA) (cE:List Bp) (outs:List Alt) (nt:Nat) (rs:List ResultVar) (code:Code) (k:Nat) (x:xP (zN args++NB cE)):Option (Ej outs):=
 match instL id args (ew _ x) with
 | some (as,l)=>match instBs id cE 0 l with
  | some (H,[])=>match Nat.ble as.length nt&&(Wq cE.length args&&cE.all (Bp.lt cE.length)) with
   | true=>aaC E bJ A dc cE.length k (VA E.P rs outs cE.length) code ⟨nt,cE.length,Hv 0 as,H⟩
   | false=>none
  | _=>none
 | none=>none
theorem P9 {D:Deferred}:∀ {ds:List Deferred},wk ds=[D]→∃ m1 m2,ds=m1++D::m2∧wk m1=[]∧wk m2=[]
 | [],h=>by cases h
 | d::ds,h=>by
  simp only [wk,List.filter_cons] at h;cases hd:isM d with
  | true=>
   rw [hd] at h;simp only [Bool.not_true,Bool.false_eq_true,if_false] at h;obtain ⟨m1,m2,h1,h2,h3⟩:=P9 (ds:=ds) h;exact ⟨d::m1,m2,by rw [h1];rfl,by simp only [wk,List.filter_cons,hd];exact h2,h3⟩
  | false=>
   rw [hd] at h;simp only [Bool.not_false,if_true,List.cons.injEq] at h;exact ⟨[],ds,by rw [h.1];rfl,rfl,h.2⟩
theorem RR {E:Env} {bJ:Nat→List CT} {A:T7} {c dc:CT} {fn:Func} {code:Code} (k:Nat) (hE:∀ j,j≤k→px E (bJ j)) (hI:∀ j,j≤k→Yk E.P (A.it j)) (bF:E.P.follows .mixedOrders=true) (hd:ac7 E.P dc)
  (Cx:∀ (xs:Array Value) (w:World),(callFunc c.f xs).run E.P w=.ok (.enter c.f xs) w) (hf:E.P.funcs[c.f]?=some fn) (hb:fn.body=some code)
  (h:c.F=RS _ (acY E bJ A dc c.args c.cE c.outs fn.ntmps fn.results.toList code k)) (hm:c.outs.all (fun a=>Nat.ble c.cE.length a.cE.length)=true):aV E.P c:=by
 intro x o ho as l H h1 h2 v r H' h3 h4;rw [h,qJ] at ho;refine ⟨Nat.le_of_ble_eq_true (List.all_eq_true.1 hm _ (AT (X:=Unit) c.outs o)),Cx,fun w F O μ ft gp x7 hr=>?_⟩;unfold acY at ho;rw [h1] at ho;simp only at ho;rw [h2] at ho;simp only at ho;split at ho
 ·rename_i hg;obtain ⟨u9,hs⟩:=TO h1 h2 hg x7 hr;refine (callsIn_wide (n:=0)).1 (callsIn_of_wp_marks (F:=Wr none) (n:=0) hf hb trivial (Code.wpIn_mono ?_ (acn hE (fun j hj=>N6 (hI j hj)) bF (n0:=⟨fn.ntmps,w.heap.size,false,[]⟩) rfl code _ ho u9 (Nat.le_refl _) (Nat.le_refl _) ⟨rfl,(fun b hb=>by cases hb),rfl⟩ hs)))
  rintro e a' w' ⟨he,hk⟩
  suffices hl:LeavesInM (Wr none) 0 E.P fn a'.tmps (Es w F O μ c.cE.length (cond (fU c.outs o).1.zU (C3.zU (v.av H')) (.ret (v.av H'))) (fU c.outs o).1.cE.length (sx H')) a'.defers .returning w' by
   rcases he with rfl | rfl<;>exact hl
  rcases hk with ⟨s',F',O',aZ,bX,hh,hk⟩ | ⟨f,cs,us,s',F',O',aZ,bX,hh,wJ,hk⟩
  ·have RN:=hh.sr.df;have emk:=BK hh.nt.2.2;rw [emk] at RN;obtain ⟨w2,sh,gC⟩:=wM (P:=E.P) (fn:=fn) (tmps:=a'.tmps) RN;have VB:=L0 (tl:=[]) hh.sr (sh.kp RN) qj.nil;obtain ⟨u,k1,k2⟩:=I2 hh.ok hh.le VB h3 h4 hk;rw [← List.append_nil a'.defers];exact gC [] _ _ (by simp) ⟨u,k1,k2.back fun h=>(hh.fr.shut sh fun b hb=>(hh.nt.2.1 b hb).1).trans h⟩
  ·obtain ⟨m1,m2,e1,e2,e3⟩:=P9 hh.nt.2.2;have RN:=hh.sr.df;have emk:SI a'.defers=m1++m2:=by
    rw [e1];simp only [SI,List.filter_append,List.filter_cons,isM];have q1:=BK e2;have q2:=BK e3;simp only [SI] at q1 q2;rw [q1,q2];rfl
   rw [emk] at RN;have zg:=List.nodup_append.1 RN.nd;have d1:qj w' F' O' m1:=⟨zg.1,fun d hd=>RN.all d (by simp [hd])⟩;obtain ⟨w2,sh,gC⟩:=wM (P:=E.P) (fn:=fn) (tmps:=a'.tmps) d1;have kp:=sh.kp d1;have d2:qj w2 F' O' m2:=⟨zg.2.1,fun d hd=>by
    obtain ⟨b,rfl,q2,q3,q4⟩:=RN.all d (by simp [hd]);exact ⟨b,rfl,q2,q3,(sh.same b fun hm1=>zg.2.2 _ hm1 _ hd rfl).trans q4⟩⟩
   have em2:=BK e3;have VB:=L0 (tl:=m2) hh.sr kp (by rw [em2];exact d2);have ahz:gZ w2 F' aZ (below s'.N) (di s'.H cs) us:=⟨wJ.1,fun i hi=>(wJ.2 i hi).kp hh.sr.hr kp⟩;rw [e1];obtain ⟨hbq,hk2⟩:=Yo hk;subst hbq;obtain ⟨zU,rr,v0,up0,vq,Ho,LK,himp,aae,MX,core⟩:=NH aaA (hd .returning) hh.ok hk2;refine gC _ _ _ (by simp) ⟨by simp,.inr ⟨(fun h=>by cases h),.func dc.f,⟨us⟩,dc.f,#[]++⟨us⟩,rfl,(show (invoke (.fn (.func dc.f) ⟨us⟩) #[]).run E.P w2=_ by simp only [invoke];exact LK (#[]++⟨us⟩) w2),fun _ _=>trivial,?_⟩⟩;cases zU with
   | true=>cases Ho
   | false=>
    have:=core VB (fun id bZ=>by simp only [List.mem_range'_1] at bZ;simp only [below];omega) us ahz;rw [show (#[]++(⟨us⟩:Array Value))=⟨us⟩ by simp];refine CallsDIn.mono this ?_
    rintro en u' w3 ⟨rfl,v3,F3,O3,μ3,ft3,rfl,g1,g2,g3⟩
    simp only [yb] at g1 g2;have Vw:=LM VB hh.ok vq (g2.imp MX) g3;have ahA:=EL hh.ok vq;have aes:=Vw.df;rw [em2] at aes;obtain ⟨w4,sh4,ahB⟩:=wM (P:=E.P) (fn:=fn) (tmps:=a'.tmps) aes;have ahC:=L0 (tl:=[]) Vw (sh4.kp aes) qj.nil;have ahD:c.cE.length≤(s'.next rr).N:=Nat.le_trans hh.le (Nat.le_add_right _ _);obtain ⟨u,k1,k2⟩:=I2 ahA ahD ahC h3 h4 Ho;have fr2:Fr w F O μ (below c.cE.length) w2 F' O' aZ:=hh.fr.shut sh fun b hb=>(hh.nt.2.1 b (by rw [e1];simp [hb])).1;have fr3:Fr w F O μ (below c.cE.length) w3 F3 O3 μ3:=fr2.trans (g3.LH fun id (bZ:id < c.cE.length)=>Nat.lt_of_lt_of_le bZ hh.le);have fr4:=fr3.shut sh4 fun b hb=>(hh.nt.2.1 b (by rw [e1];simp [hb])).1;show LeavesInM (Wr none) 0 E.P fn a'.tmps _ m2 .returning w3;have:=ahB [] (Es w F O μ c.cE.length (cond (fU c.outs o).1.zU (C3.zU (v.av H')) (.ret (v.av H'))) (fU c.outs o).1.cE.length (sx H')) .returning (by simp) ⟨u,k1,k2.back fun h=>fr4.trans h⟩;rwa [List.append_nil] at this
 ·cases ho
end Go.Proofs.YtjkbbdldmdajkaaGreatDoor.c5
