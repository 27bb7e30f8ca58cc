/- Iterators: what they yield, and that they keep their promise. No condition. -/
import Derived.Test.YtljfmaaadnoggaaGreatDoorWA
namespace Go.Proofs.YtljfmaaadnoggaaGreatDoor.cU
open Go Go.RowKit
variable {w w' vP:World} {F F' Am O O' ux:Nat→Prop} {μ bB jV:Nat→Nat} {K K' DQ:Nat→Prop} {ft b7:Nat→Nat→Prop} {P:Program}
def Qi {α:Type} (y:α) (a b:Option (List α)):Option (List α):=match a,b with
 | some r,some []=>some (y::r)
 | _,_=>none
theorem TM {α:Type} {y:α} {a b:Option (List α)} {z:List α} (h:Qi y a b=some z):∃ r,z=y::r∧a=some r∧b=some []:=by
 unfold Qi at h
 split at h
 ·cases h;exact ⟨_,rfl,rfl,rfl⟩
 ·cases h
structure KsY (α:Type) where
 n:bK→List Nat→Option (List α)
 x:Nat→bK→List Nat→Option (List α)
 r:bK→List Nat→Option (List α)
def Wx (Y:List Nat) (o:Oper):Option (List Operand):=match o.op with
 | .call ⟨.value (.tmp t),⟨args⟩,_⟩=>match wi Y t with
  | true=>some args
  | false=>none
 | _=>none
def Wy (Y:List Nat) (o:Oper):Bool:=match o.op with
 | .move (.tmp t)=>wi Y t
 | .assign (.tmp t)=>wi Y t
 | _=>false
def P8 (Y:List Nat):Option Nat→List Nat
 | none=>Y
 | some d=>Y.filter fun t=>!Nat.beq t d
def aeY (Y:List Nat):Option Nat→List Nat
 | none=>Y
 | some d=>d::Y
def Lr (E:Env) (bH:List CT) (dR:List Ty) (o:Oper) (s:bK) (Y:List Nat) (b:Bool) (κ:bK→List Nat→Option (List (x4 dR))):Option (List (x4 dR)):=
 match b with
 | false=>κ (s.put o.dst (.lit undef)) (P8 Y o.dst)
 | true=>match Wx Y o with
  | some args=>match D7 s.H (dR.map .d) (args.map s.val) ⟨[],[]⟩ with
   | some (⟨[],[]⟩,ds)=>match nw dR ds with
    | some y=>Qi y (κ (s.put o.dst (.d ⟨.bool,true⟩)) (P8 Y o.dst)) (κ (s.put o.dst (.d ⟨.bool,false⟩)) (P8 Y o.dst))
    | none=>none
   | _=>none
  | none=>match Wy Y o with
   | true=>κ (s.put o.dst .top) (aeY Y o.dst)
   | false=>match D_ s (KA E bH o s) with
    | ⟨nt,N,tm,H⟩=>evT E bH o ⟨nt,N,tm,H⟩ (fun r=>κ ((bK.next ⟨nt,N,tm,H⟩ r).put o.dst r.v) (P8 Y o.dst)) (fun _=>none)
def BC (E:Env) (bH:List CT) (dR:List Ty) (ops:Array Oper):List Oper→bK→List Nat→(bK→List Nat→Option (List (x4 dR)))→Option (List (x4 dR))
 | [],s,Y,κ=>κ s Y
 | o::rest,s,Y,κ=>match nU s o.dst with
  | true=>match NN ops s o with
   | some .yes=>Lr E bH dR o s Y true fun s Y=>BC E bH dR ops rest s Y κ
   | some .no=>Lr E bH dR o s Y false fun s Y=>BC E bH dR ops rest s Y κ
   | some (.on t b c)=>cond b (Lr E bH dR o (s.Eb t true) Y c fun s Y=>BC E bH dR ops rest s Y κ) (Lr E bH dR o (s.Eb t false) Y (!c) fun s Y=>BC E bH dR ops rest s Y κ)
   | none=>none
  | false=>none
def AB (E:Env) (bH:Nat→List CT) (A:Ann) (dR:List Ty):Code→Nat→bK→List Nat→KsY (x4 dR)→Option (List (x4 dR))
 | .skip,_,s,Y,ks=>ks.n s Y
 | .region _ ⟨ops⟩ false,k,s,Y,ks=>BC E (bH k) dR ⟨ops⟩ ops s Y ks.n
 | .seq x y,k,s,Y,ks=>AB E bH A dR x k s Y { ks with n:=fun s' Y'=>AB E bH A dR y k s' Y' ks }
 | .cond c x y,k,s,Y,ks=>match s.val c with
  | .d ⟨.bool,b⟩=>cond b (AB E bH A dR x k s Y ks) (AB E bH A dR y k s Y ks)
  | _=>none
 | .block id c,k,s,Y,ks=>AB E bH A dR c k s Y { ks with x:=fun i s' Y'=>match Nat.beq i id with
  | true=>ks.n s' Y'
  | false=>ks.x i s' Y' }
 | .loop c,k,s,Y,ks=>match abG A.loop c,wi Y 0 with
  | some f,true=>Cb f 0 (iter k fun k' rec=>Ed f s.nt fun s'=>AB E bH A dR c k' s' [0] { ks with n:=fun s' Y'=>match wi Y' 0 with
   | true=>Cb f 0 rec s'
   | false=>none }) s
  | _,_=>none
 | .exit id,_,s,Y,ks=>ks.x id s Y
 | .ret,_,s,Y,ks=>ks.r s Y
 | _,_,_,_,_=>none
structure HY {α:Type} (J:List α→World→(Nat→Prop)→(Nat→Prop)→Prop) (yv:Value) (n0:Nat) (z:List α) (s:bK) (Y:List Nat) (a:Act) (w:World) (F O:Nat→Prop) (μ:Nat→Nat) (ft:Nat→Nat→Prop):Prop where
 ok:s.ok
 nt:s.nt=n0
 df:a.defers=[]
 sr:SR w F O μ (below s.N) s.st ft a
 y:∀ t,wi Y t=true→a.tmps.getD t undef=yv
 j:J z w F O
def KsY.at {α:Type} (ks:KsY α) (z:List α) (e:Exit) (s:bK) (Y:List Nat):Prop:=match e with
 | .normal=>ks.n s Y=some z
 | .exit i=>ks.x i s Y=some z
 | .ret=>ks.r s Y=some z
 | _=>False
def acp {α:Type} (ks:KsY α) (J:List α→World→(Nat→Prop)→(Nat→Prop)→Prop) (yv:Value) (n0:Nat):Exit→Act→World→Prop:=fun e a w=>
 ∃ z s Y F O μ ft,HY J yv n0 z s Y a w F O μ ft∧ks.at z e s Y
theorem Ef {d t:Nat}:∀ {Y:List Nat},wi (Y.filter fun t=>!Nat.beq t d) t=true→wi Y t=true∧t≠d
 | [],h=>by cases h
 | i::r,h=>by
  simp only [List.filter_cons] at h
  cases e:Nat.beq i d with
  | true=>
   rw [e] at h
   obtain ⟨h1,h2⟩:=Ef (d:=d) (Y:=r) (by simpa using h)
   refine ⟨?_,h2⟩
   simp only [wi]
   cases Nat.beq t i<;>simp [h1]
  | false=>
   rw [e] at h
   simp only [Bool.not_false,if_true,wi] at h ⊢
   cases e2:Nat.beq t i with
   | true=>
    rw [Nat.eq_of_beq_eq_true e2]
    exact ⟨rfl,Nat.ne_of_beq_eq_false e⟩
   | false=>
    rw [e2] at h
    exact Ef h
theorem P9 {a:Act} {d:Option Nat} {v:Value} {t:Nat} (h:d≠some t):(a.put d v).tmps.getD t undef=a.tmps.getD t undef:=by
 cases d with
 | none=>rfl
 | some d=>
  have:d≠t:=fun e=>h (by rw [e])
  simp [Act.put,Array.getElem?_setIfInBounds_ne this]
theorem RJ {Y:List Nat} {a:Act} {d:Option Nat} {v yv:Value} (h:∀ t,wi Y t=true→a.tmps.getD t undef=yv):∀ t,wi (P8 Y d) t=true→(a.put d v).tmps.getD t undef=yv:=fun t ht=>by
 cases d with
 | none=>exact h t ht
 | some d=>
  obtain ⟨h1,h2⟩:=Ef ht
  rw [P9 (fun e=>h2 (by simpa using e.symm))]
  exact h t h1
theorem N3 {a:Act} {d:Option Nat} {v:Value} (h:a.defers=[]):(a.put d v).defers=[]:=by cases d<;>exact h
theorem Je (s:bK) (d:Option Nat) (v:TA):(s.put d v).nt=s.nt:=by cases d<;>rfl
theorem N4 (s:bK) (d:Option Nat) (v:TA):(s.put d v).N=s.N:=by cases d<;>rfl
theorem instL_ds:∀ {ts:List Ty} {ds:List cE} {as:List TA},instL id (ts.map uQ.d) ds=some (as,[])→as=ds.map CH
 | [],ds,as,h=>by
  simp only [List.map_nil,instL,Option.some.injEq,Prod.mk.injEq] at h
  obtain ⟨h1,h2⟩:=h
  subst h1 h2
  rfl
 | t::ts,ds,as,h=>by
  simp only [List.map_cons,instL,instP] at h
  cases ds with
  | nil=>cases h
  | cons y ds=>
   simp only at h
   split at h
   ·rename_i a l h1
    split at h1
    ·cases h1
     split at h
     ·rename_i bs l' h2
      cases h
      rw [instL_ds h2];rfl
     ·cases h
    ·cases h1
   ·cases h
section
variable {E:Env} {dR:List Ty} {l:Nat} {J:List (x4 dR)→World→(Nat→Prop)→(Nat→Prop)→Prop}
def CI (l:Nat):Value:=.func (.yield l) ⟨[]⟩ ⟨[]⟩
theorem aah {bH:List CT} {o:Oper} {s:bK} {Y:List Nat} {b:Bool} {κ:bK→List Nat→Option (List (x4 dR))} {z:List (x4 dR)} {n0:Nat} {a:Act} {ops:Array Oper} {Kn:Act→World→Prop} {Q:Exit→Act→World→Prop} (hE:vT E bH) (vQ:XY J) (hrd:NY E.P l dR J)
  (h:Lr E bH dR o s Y b κ=some z) (hd:nU s o.dst=true) (hw:Region.wanted o (yielded ops a.tmps)=b) (hy:HY J (CI l) n0 z s Y a w F O μ ft)
  (hk:∀ z' s' Y' a' w' F' O' bB b7,κ s' Y'=some z'→HY J (CI l) n0 z' s' Y' a' w' F' O' bB b7→Kn a' w'):
  if Region.wanted o (yielded ops a.tmps) then o.wpIn (Wr none) 0 E.P a w Kn Q else (∀ f,o.about E.P w a.eval=some f→(Wr none).fn f)∧Kn (a.put o.dst undef) w:=by
 cases b with
 | false=>
  rw [hw]
  simp only [Lr] at h
  simp only [Bool.false_eq_true,if_false]
  refine ⟨fun _ _=>trivial,hk _ _ _ _ w F O μ ft h ⟨zw hy.ok (by simp only [TA.wf]),by rw [Je];exact hy.nt,N3 hy.df,by rw [N4];exact Hh hy.sr hd (by simp only [TA.av];exact .lit _),RJ hy.y,hy.j⟩⟩
 | true=>
  rw [hw]
  simp only [if_true]
  simp only [Lr] at h
  split at h
  ·rename_i args hya
   split at h
   ·rename_i ds he
    split at h
    ·rename_i y hc
     obtain ⟨r,rfl,k1,k2⟩:=TM h
     unfold Wx at hya
     split at hya
     ·rename_i t agY ts mO
      split at hya
      ·rename_i Kw
       cases hya
       have hyv:a.eval (.tmp t)=CI l:=hy.y t Kw
       obtain ⟨as,e1,e2⟩:=NX he
       have AM:=e2 (At s args hy.sr)
       rw [instL_ds e1,cR,List.map_map] at AM
       have rR:(ds.map (TA.av [] ∘ CH))=(eG dR y).map cK:=by
        rw [kK hc]
        exact List.map_congr_left fun q _=>L6 [] q
       rw [rR] at AM
       obtain ⟨fn,tmps,x1,x2,lD,Vr⟩:=hrd y r w F O μ _ hy.j hy.sr.hr.wf3 AM
       refine ⟨fun _ _=>trivial,?_⟩
       rw [Oper.semAt_eq _ _ _ (by intro c hc';rw [mO] at hc';cases hc')]
       have hex:(execOp a.eval o).run E.P w=.ok (.round l fn tmps x1 x2) w:=by
        simp only [execOp,mO,resolve,hyv,CI,Deferred.ofValue,Sem.run_bind,Sem.run_pure,Result.andThen_ok,invoke]
        simpa using lD
       rw [hex]
       refine ⟨(fun h=>by cases h),RoundIn.mono Vr ?_⟩
       rintro e w' ⟨b,rfl,kp,hj⟩
       have g6:SR w' F O μ (below s.N) s.st ft a:=⟨hy.sr.hr.kp kp,hy.sr.nt,fun t=>(hy.sr.tm t).kp hy.sr.hr kp,by rw [hy.df];exact uO.nil⟩
       cases b with
       | true=>exact hk r _ _ _ w' F O μ ft k1 ⟨zw hy.ok (by simp only [TA.wf]),by rw [Je];exact hy.nt,N3 hy.df,by rw [N4];exact Hh g6 hd (by simp only [TA.av,cK];exact .bool _),RJ hy.y,hj⟩
       | false=>exact hk [] _ _ _ w' F O μ ft k2 ⟨zw hy.ok (by simp only [TA.wf]),by rw [Je];exact hy.nt,N3 hy.df,by rw [N4];exact Hh g6 hd (by simp only [TA.av,cK];exact .bool _),RJ hy.y,hj⟩
      ·cases hya
     ·cases hya
    ·cases h
   ·cases h
  ·split at h
   ·rename_i hmv
    have key:∀ t,wi Y t=true→(o.op=.move (.tmp t)∨o.op=.assign (.tmp t))→o.wpIn (Wr none) 0 E.P a w Kn Q:=by
     intro t hm mO
     refine Tu (fun c hc=>by rcases mO with e | e<;>rw [e] at hc<;>cases hc) ?_
     unfold Oper.wp
     have hex:(execOp a.eval o).run E.P w=.ok (.value (a.eval (.tmp t))) w:=by rcases mO with e | e<;>simp [execOp,e]
     rw [hex,Oper.upon_value]
     refine hk z _ _ _ w F O μ ft h ⟨zw hy.ok (by simp only [TA.wf]),by rw [Je];exact hy.nt,N3 hy.df,by rw [N4];exact Hh hy.sr hd (by simp only [TA.av];exact .top _),fun t' Xd=>?_,hy.j⟩
     have hyv:a.eval (.tmp t)=CI l:=hy.y t hm
     cases OZ:o.dst with
     | none=>rw [OZ] at Xd;exact hy.y t' Xd
     | some d=>
      rw [OZ] at Xd hd
      by_cases e:d=t'
      ·subst e
       have dL:d < a.tmps.size:=by rw [hy.sr.nt];exact Nat.le_of_ble_eq_true hd
       rw [hyv]
       simp [Act.put,dL]
      ·rw [P9 (fun h=>e (by simpa using h))]
       refine hy.y t' ?_
       simp only [aeY,wi,ca (show ¬ t'=d from fun h=>e h.symm)] at Xd
       exact Xd
    unfold Wy at hmv
    split at hmv
    ·rename_i t mO;exact key t hmv (.inl mO)
    ·rename_i t mO;exact key t hmv (.inr mO)
    ·cases hmv
   ·obtain ⟨z1,z2,z3,F1,O1,z4,z5⟩:=Rv (KA E bH o s) hy.ok hy.sr
    have h:evT E bH o (D_ s (KA E bH o s)) (fun r=>κ ((bK.next (D_ s (KA E bH o s)) r).put o.dst r.v) (P8 Y o.dst)) (fun _=>none)=some z:=h
    have hd:nU (D_ s (KA E bH o s)) o.dst=true:=by
     cases OZ:o.dst with
     | none=>rfl
     | some t=>rw [OZ] at hd;simp only [nU,z3] at hd ⊢;exact hd
    refine Tu (Vk h) ?_
    rcases Vg hE z1 h with ⟨r,h1,h2,h3⟩ | ⟨r,_,_,h3⟩
    ·refine V0 h1 z4 fun v w' F' O' bB b7 k1 k2 k3=>?_
     have Ig:=Q7 z4 z1 h2 k2 k3
     have Jl:=IS z1 h2
     have Nh:nU (bK.next (D_ s (KA E bH o s)) r) o.dst=true:=by cases OZ:o.dst<;>rw [OZ] at hd<;>exact hd
     refine hk z _ _ _ w' F' O' bB b7 h3 ⟨zw Jl h2.v,by rw [Je];exact z3.trans hy.nt,N3 hy.df,by rw [N4];exact Hh Ig Nh k1,RJ hy.y,?_⟩
     exact vQ _ _ _ _ _ _ _ _ _ _ (vQ _ _ _ _ _ _ _ _ _ _ hy.j hy.sr.hr.wf3 z4.hr.wf3 z5) z4.hr.wf3 k2.wf3 k3
    ·cases h3
theorem P_ {bH:List CT} {ops:Array Oper} {κ:bK→List Nat→Option (List (x4 dR))} {n0:Nat} {Q:Exit→Act→World→Prop} (hE:vT E bH) (vQ:XY J) (hrd:NY E.P l dR J):∀ {lo:List Oper} {z:List (x4 dR)} {s:bK} {Y:List Nat} {w:World} {F O:Nat→Prop} {μ:Nat→Nat} {ft:Nat→Nat→Prop} {a:Act},
  BC E bH dR ops lo s Y κ=some z→HY J (CI l) n0 z s Y a w F O μ ft→
  (∀ z' s' Y' a' w' F' O' bB b7,κ s' Y'=some z'→HY J (CI l) n0 z' s' Y' a' w' F' O' bB b7→Q .normal a' w')→wpListIn (Wr none) 0 E.P ops Q lo a w
 | [],z,s,Y,w,F,O,μ,ft,a,h,hy,hk=>by
  simp only [BC] at h
  exact hk z s Y a w F O μ ft h hy
 | o::rest,z,s,Y,w,F,O,μ,ft,a,h,hy,hk=>by
  simp only [BC] at h
  have go:∀ (s0:bK) (b:Bool),Lr E bH dR o s0 Y b (fun s Y=>BC E bH dR ops rest s Y κ)=some z→nU s0 o.dst=true→HY J (CI l) n0 z s0 Y a w F O μ ft→Region.wanted o (yielded ops a.tmps)=b→wpListIn (Wr none) 0 E.P ops Q (o::rest) a w:=by
   intro s0 b h0 Z1 hy0 hw0
   exact aah (ops:=ops) hE vQ hrd h0 Z1 hw0 hy0 fun z' s' Y' a' w' F' O' bB b7 Oj hh=>P_ hE vQ hrd Oj hh hk
  split at h
  ·rename_i hd
   split at h
   ·rename_i hw
    exact go s true h hd hy (oE hy.sr hw)
   ·rename_i hw
    exact go s false h hd hy (oE hy.sr hw)
   ·rename_i t b c hw
    have hl:=Hu hw
    have Xp:=oE hy.sr hw
    simp only at Xp
    cases b with
    | true=>
     refine go _ c h hd ⟨I7 hy.ok,hy.nt,hy.df,L7 hy.sr hl,hy.y,hy.j⟩ ?_
     rw [Xp];cases c<;>rfl
    | false=>
     refine go _ (!c) h hd ⟨I7 hy.ok,hy.nt,hy.df,L7 hy.sr hl,hy.y,hy.j⟩ ?_
     rw [Xp];cases c<;>rfl
   ·cases h
  ·cases h
theorem TN {f:iY} {Jf:LQ f.dR (Option (List (x4 dR)))} {s:bK} {Y:List Nat} {z:List (x4 dR)} {n0:Nat} {a:Act} (vQ:XY J) (h:Cb f 0 Jf s=some z) (hm:wi Y 0=true) (hy:HY J (CI l) n0 z s Y a w F O μ ft):
  ∃ x s',xy f.dR Jf x=some z∧instF n0 f (eG f.dR x)=some s'∧∃ F' O' bB b7,HY J (CI l) n0 z s' [0] a w F' O' bB b7:=by
 obtain ⟨x,s',h1,h2,F',O',bB,b7,hh⟩:=Ay (n0:=(s.nt,0)) h hy.ok (Nat.zero_le _) ⟨rfl,fun _ _=>Nat.zero_le _⟩ hy.sr
 rw [hy.nt] at h2
 refine ⟨x,s',h1,h2,F',O',bB,b7,hh.ok,hh.nt.1.trans hy.nt,hy.df,hh.sr,fun t ht=>?_,vQ _ _ _ _ _ _ _ _ _ _ hy.j hy.sr.hr.wf3 hh.sr.hr.wf3 hh.fr⟩
 have:t=0:=by
  simp only [wi] at ht
  split at ht
  ·rename_i e;exact Nat.eq_of_beq_eq_true e
  ·cases ht
 subst this
 exact hy.y 0 hm
theorem abQ {bH:Nat→List CT} {A:Ann} {K0:Nat} {n0:Nat} (hE:∀ k,k≤K0→vT E (bH k)) (vQ:XY J) (hrd:NY E.P l dR J):∀ (c:Code) (k:Nat) (z:List (x4 dR)) (s:bK) (Y:List Nat) (ks:KsY (x4 dR)),AB E bH A dR c k s Y ks=some z→k≤K0→
  ∀ {w:World} {F O:Nat→Prop} {μ:Nat→Nat} {ft:Nat→Nat→Prop} {a:Act},HY J (CI l) n0 z s Y a w F O μ ft→c.wpIn (Wr none) 0 E.P (acp ks J (CI l) n0) a w:=by
 intro c
 induction c with
 | skip=>
  intro k z s Y ks h wv w F O μ ft a hy
  exact wpIn_skip ⟨z,s,Y,F,O,μ,ft,hy,h⟩
 | label i=>intro k z s Y ks h;simp [AB] at h
 | goto i=>intro k z s Y ks h;simp [AB] at h
 | refuse i=>intro k z s Y ks h;simp [AB] at h
 | scope c ih=>intro k z s Y ks h;simp [AB] at h
 | rangeFunc f p x y ih1 ih2=>intro k z s Y ks h;simp [AB] at h
 | exit id=>
  intro k z s Y ks h wv w F O μ ft a hy
  exact wpIn_exit ⟨z,s,Y,F,O,μ,ft,hy,h⟩
 | ret=>
  intro k z s Y ks h wv w F O μ ft a hy
  exact wpIn_ret ⟨z,s,Y,F,O,μ,ft,hy,h⟩
 | region id ops draw=>
  intro k z s Y ks h wv w F O μ ft a hy
  obtain ⟨ops⟩:=ops
  cases draw with
  | false=>
   simp only [AB] at h
   exact wpIn_region_list (P_ (hE k wv) vQ hrd h hy fun z' s' Y' a' w' F' O' bB b7 h1 h2=>⟨z',s',Y',F',O',bB,b7,h2,h1⟩)
  | true=>simp [AB] at h
 | seq x y ihx ihy=>
  intro k z s Y ks h wv w F O μ ft a hy
  simp only [AB] at h
  refine wpIn_seq (Code.wpIn_mono ?_ (ihx k z s Y _ h wv hy))
  rintro e a' w' ⟨z',s',Y',F',O',bB,b7,hh,hk⟩
  cases e with
  | normal=>exact ihy k z' s' Y' ks hk wv hh
  | _=>exact ⟨z',s',Y',F',O',bB,b7,hh,hk⟩
 | cond c x y ihx ihy=>
  intro k z s Y ks h wv w F O μ ft a hy
  simp only [AB] at h
  split at h
  ·rename_i b hb
   have hv:=b8 hb hy.sr
   simp only [TA.av,cK] at hv
   cases b with
   | true=>exact wpIn_cond_true hv.ey (ihx k z s Y ks h wv hy)
   | false=>exact wpIn_cond_false hv.ey (ihy k z s Y ks h wv hy)
  ·cases h
 | block id c ih=>
  intro k z s Y ks h wv w F O μ ft a hy
  simp only [AB] at h
  refine wpIn_block (Code.wpIn_mono ?_ (ih k z s Y _ h wv hy))
  rintro e a' w' ⟨z',s',Y',F',O',bB,b7,hh,hk⟩
  cases e with
  | exit b9=>
   simp only [KsY.at] at hk
   simp only [Exit.inBlock]
   split
   ·rename_i e
    subst e
    rw [Nat.beq_refl] at hk
    exact ⟨z',s',Y',F',O',bB,b7,hh,hk⟩
   ·rename_i e
    rw [ca e] at hk
    exact ⟨z',s',Y',F',O',bB,b7,hh,hk⟩
  | _=>exact ⟨z',s',Y',F',O',bB,b7,hh,hk⟩
 | loop c ih=>
  intro k z s Y ks h wv w F O μ ft a hy
  simp only [AB] at h
  split at h
  ·rename_i f hf hm
   have key:∀ (k:Nat),k≤K0→∀ (z:List (x4 dR)) (x:x4 f.dR) (s':bK),xy f.dR (iter k fun k' rec=>Ed f s.nt fun s'=>AB E bH A dR c k' s' [0] { ks with n:=fun s' Y'=>match wi Y' 0 with
      | true=>Cb f 0 rec s'
      | false=>none }) x=some z→instF s.nt f (eG f.dR x)=some s'→
     ∀ {w:World} {F O:Nat→Prop} {μ:Nat→Nat} {ft:Nat→Nat→Prop} {a:Act},HY J (CI l) n0 z s' [0] a w F O μ ft→zc none E.P c (acp ks J (CI l) n0) a w:=by
    intro k
    induction k with
    | zero=>
     intro _ z x s' h1
     simp only [iter] at h1
     rw [wj] at h1
     cases h1
    | succ k ihk=>
     intro wv z x s' h1 h2 w F O μ ft a hy'
     simp only [iter] at h1
     rw [Az h2] at h1
     refine zc.round (Code.wpIn_mono ?_ (ih k z s' _ _ h1 (by omega) hy'))
     rintro e a' w' ⟨z',s2,Y2,F',O',bB,b7,hh,hk⟩
     cases e with
     | normal=>
      simp only [KsY.at] at hk
      split at hk
      ·rename_i hm2
       obtain ⟨x',s3,k1,k2,F2,O2,FE,Lg,k3⟩:=TN vQ hk hm2 hh
       exact ihk (by omega) z' x' s3 k1 (by rw [hy.nt];exact k2) k3
      ·cases hk
     | _=>exact ⟨z',s2,Y2,F',O',bB,b7,hh,hk⟩
   obtain ⟨x,s',h1,h2,F',O',bB,b7,h3⟩:=TN vQ h hm hy
   exact (key k wv z x s' h1 (by rw [hy.nt];exact h2) h3).wp
  ·cases h
end
def aeZ (E:Env) (bH:Nat→List CT) (A:Ann) (zA:List uQ) (dR:List Ty) (nt:Nat) (code:Code) (k:Nat) (x:x4 (CG zA)):Option (List (x4 dR)):=
 match instL id zA (eG _ x) with
 | some (as,[])=>match Nat.ble (as.length+1) nt&&ZQ 0 zA with
  | true=>AB E bH A dR code k ⟨nt,0,KG 0 (.top::as),[]⟩ [0] ⟨fun _ _=>some [],fun _ _ _=>none,fun _ _=>some []⟩
  | false=>none
 | _=>none
theorem RW {E:Env} {bH:Nat→List CT} {A:Ann} {c:IT} {fn:Func} {code:Code} (k:Nat) (hE:∀ j,j≤k→vT E (bH j)) (TI:∀ (xs:Array Value) (w:World),(callFunc c.f xs).run E.P w=.ok (.enter c.f xs) w)
  (hf:E.P.funcs[c.f]?=some fn) (hb:fn.body=some code) (hr:fn.results.toList=[]) (h:c.L=WQ _ (aeZ E bH A c.zA c.dR fn.ntmps code k)):JE E.P c:=by
 refine ⟨TI,fun x xs hx as has w F μ us RR hwf XZ l J vQ hrd hj=>?_⟩
 rw [h,wj] at hx
 unfold aeZ at hx
 rw [has] at hx
 simp only at hx
 split at hx
 ·rename_i hg
  simp only [Bool.and_eq_true] at hg
  obtain ⟨hn,hl⟩:=hg
  have hn:=Nat.le_of_ble_eq_true hn
  have hv:hP w F μ (below 0) (dJ [] (.top::as)) (CI l::us):=by
   simp only [dJ,TA.av]
   exact .cons (.top _) ⟨RR.1,fun i hi=>(RR.2 i hi).up⟩
  have hr0:HR w F (fun _=>False) μ (below 0) (vS []) (fun _ _=>False):=
   { lt:=fun id h=>absurd h (by simp [below]),known:=fun id b h=>(by cases h),di:=fun id b h=>(by cases h),self:=fun id ⟨b,h,_⟩=>(by cases h),own:=fun id _ x h=>h.elim,dj:=fun id b9 ⟨b,h,_⟩=>(by cases h),xW:=fun _ h=>h.elim,wf:=hwf,p0:=fun _ h=>h.elim,pos:=XZ }
  have hs:=TK (nt:=fn.ntmps) (N:=0) hr0 hv (by simpa using hn)
  have Du:bK.ok ⟨fn.ntmps,0,KG 0 (.top::as),[]⟩:=by
   have hw:=instL_wf (m:=0) (N:=0) (H:=[]) (fun j h=>h) has hl
   refine ⟨fun t=>?_,fun id l hl=>by cases hl⟩
   show (look (KG 0 (.top::as)) t).wf [] _
   rw [KH]
   split
   ·exact Bs (l:=.top::as) (by simp only [gQ,TA.wf];exact ⟨trivial,hw⟩) _
   ·simp only [TA.wf]
  have dL:0 < fn.ntmps:=by omega
  have hy:HY J (CI l) fn.ntmps xs ⟨fn.ntmps,0,KG 0 (.top::as),[]⟩ [0] { tmps:=⟨CI l::us⟩++Array.replicate (fn.ntmps-(⟨CI l::us⟩:Array Value).size) undef,defers:=[] } w F (fun _=>False) μ (fun _ _=>False):=
   ⟨Du,rfl,rfl,hs,fun t ht=>by
    have:t=0:=by
     simp only [wi] at ht
     split at ht
     ·rename_i e;exact Nat.eq_of_beq_eq_true e
     ·cases ht
    subst this
    simp [Array.getElem?_append],hj⟩
  refine callsIn_of_wp_marks hf hb trivial (Code.wpIn_mono ?_ (abQ (fun j hj=>hE j hj) vQ hrd code k xs _ _ _ hx (Nat.le_refl _) hy))
  rintro e a' w' ⟨z,s',Y',F',O',bB,b7,hh,hk⟩
  have fin:z=[]→bodyPostM (Wr none) 0 E.P fn (fun e w'=>∃ v F' O',e=.returned v∧J [] w' F' O') .ret a' w':=by
   rintro rfl
   show LeavesInM _ _ _ _ _ _ a'.defers _ _
   rw [hh.df]
   obtain ⟨_,u,k1,_⟩:=N2 (P:=E.P) (fn:=fn) hh.ok hh.sr (l:=[]) (by rw [hr];rfl)
   exact ⟨u,k1,u,F',O',rfl,hh.j⟩
  cases e with
  | normal=>exact fin (by simpa [KsY.at] using hk.symm)
  | ret=>exact fin (by simpa [KsY.at] using hk.symm)
  | exit i=>cases hk
  | goto i=>exact hk.elim
  | panic l=>exact hk.elim
  | outgrown=>exact hk.elim
 ·cases hx
end Go.Proofs.YtljfmaaadnoggaaGreatDoor.cU
