/- The evaluator of operations: rows that are made, literals, append, copy, parts; all operations but calls. No condition. -/
import Derived.Test.YtljfmaaadnoggaaGreatDoorVK
set_option linter.unusedSimpArgs false
set_option linter.unusedVariables false
namespace Go.Proofs.YtljfmaaadnoggaaGreatDoor.cU
open Go Go.RowKit
variable {w w' vP:World} {F F' Am O O' ux:Nat→Prop} {μ bB jV:Nat→Nat} {K K' DQ:Nat→Prop} {ft b7:Nat→Nat→Prop} {P:Program} {R:Type}
theorem Kl {t:Ty} {e:t.dn} {cs:List TA} {ds:List cE} {H:List (Nat×aW)} (hd:rG (FF t) cs=some ds) (he:LY t ds=some e) (j:Nat) (hj:j < cs.length):gZ ((cs.getD j .top).av H) ((rk t e).getD j .top):=by
 obtain ⟨d1,d2,d3,d4⟩:=mJ hd
 rw [← e_,ez he]
 intro w F μ K v hv
 exact d4 H j hj hv
def Rf (E:Env) (s:bK) (t:TypeId) (x y:TA) (κ:cC→Option R):Option R:=
 match x,y,E.P.underlying t with
 | .d ⟨.int .i64,l⟩,.d ⟨.int .i64,c⟩,some (.slice et)=>match E.P.info? et,D5 E.P et,Nk E.tc et with
  | some ti,some zs,some u=>if Nat.beq zs.length ti.size&&Nat.beq ti.size (eR u) then (match rG (FF u) zs with
   | some ds=>match LY u ds with
    | some e=>bC (Ej l c ti.bytes) (κ ⟨.ow s.N,[(s.N,some (.row u .ms (List.replicate (Int.toNat l) e)))],1⟩)
    | none=>none
   | none=>none) else none
  | _,_,_=>none
 | _,_,_=>none
theorem Bw {ts:List Ty} {l:List TA} {r:List cE} (h:rG ts l=some r) (H:List (Nat×aW)):(∀ a,a∈dJ H l→PL a)∧∀ a,a∈dJ H l→One a:=by
 refine ⟨fun b hb=>?_,fun b hb=>?_⟩
 ·rw [cR] at hb
  obtain ⟨a,ha,rfl⟩:=List.mem_map.1 hb
  cases S5:D6 a with
  | true=>exact xS S5
  | false=>exact absurd S5 (tx h a ha)
 ·rw [cR] at hb
  obtain ⟨a,ha,rfl⟩:=List.mem_map.1 hb
  obtain ⟨k,hk,rfl⟩:=List.getElem_of_mem ha
  obtain ⟨d1,d2,d3,d4⟩:=mJ h
  intro w F μ K v' J_
  have hv2:VR w F μ K ((l.getD k .top).av H) v':=by rw [getD_eq _ _ hk];exact J_
  have hk2:k < r.length:=by omega
  have h5:(r.map cK).getD k .top=cK r[k]:=by simp [List.getD,hk2]
  exact IP (d3 _ (List.getElem_mem hk2)) (h5▸d4 H k hk hv2)
theorem wq (H:List (Nat×aW)) {t:Ty} {v:RV} {xs:List t.dn} (h:v.d=false):(aW.row t v xs).di H=.row v.b (eR t) xs.length (cy t xs):=by
 simp only [aW.di]
 congr 1
 funext i j
 simp only [bU,h]
theorem PU {E:Env} {o:Oper} {s:bK} {κ:cC→Option R} {z:R} {x y:Operand} {t:TypeId} (ho:o.op=.makeSlice t x y) (hs:s.ok) (h:Rf E s t (s.val x) (s.val y) κ=some z):we E.P o s κ z:=by
 unfold Rf at h
 split at h
 ·rename_i l c et hx hy ht
  have h1:dT s.st x (.int .i64 l):=b8 hx
  have h2:dT s.st y (.int .i64 c):=b8 hy
  split at h
  ·rename_i ti zs u hi hz _
   split at h
   ·rename_i hc
    simp only [Bool.and_eq_true] at hc
    have e1:=Nat.eq_of_beq_eq_true hc.1
    have e2:=Nat.eq_of_beq_eq_true hc.2
    split at h
    ·rename_i ds rR
     split at h
     ·rename_i e he
      obtain ⟨q,h⟩:=gh h
      obtain ⟨q1,q2,q3,q4⟩:=UT q
      obtain ⟨z1,z2⟩:=rJ hz s.H s.N
      obtain ⟨c1,c2⟩:=Bw rR s.H
      have mO:=Q4 false (fun h=>by cases h) (P:=E.P) (N:=s.N) (e:=cy u (List.replicate (Int.toNat l) e)) ho h1 h2 ht hi z1 (by rw [bE];exact e1) c1 c2 q1 q2 q3 q4 (fun i j c8 lu=>by
       rw [dy _ _ _ (by omega)]
       simp only [cy]
       have:(List.replicate (Int.toNat l) e).getD i u.df=e:=by simp [List.getD,c8]
       rw [this]
       intro w1 F1 Kj K1 v1 Jm
       exact Kl rR he j (by omega) Jm)
      refine iO (k:=1) hs h mO nD ?_ (by simp only [TA.wf];omega) ?_ (fun l' e=>by cases e)
      ·simp only [TA.av,fj,rI,if_true,List.length_replicate]
       rw [e2]
       exact gZ.refl _
      ·rw [wq _ rfl]
       simp only [List.length_replicate]
       rw [e2]
       exact eD.refl _
     ·cases h
    ·cases h
   ·cases h
  ·cases h
 ·cases h
def Rg (E:Env) (s:bK) (t:TypeId) (x y:TA) (κ:cC→Option R):Option R:=
 match x,y,E.P.underlying t with
 | .d ⟨.int .i64,l⟩,.d ⟨.int .i64,c⟩,some (.slice et)=>match E.P.info? et,D5 E.P et,Nk E.tc et with
  | some ti,some zs,some u=>if Nat.beq zs.length ti.size&&Nat.beq ti.size (eR u) then (match rG (FF u) zs with
   | some ds=>match LY u ds with
    | some e=>bC (Ej l c ti.bytes) (bC (bN 0 l) (κ ⟨.ow s.N,[(s.N,some (.row u .vs (List.replicate (Int.toNat l) e)))],1⟩))
    | none=>none
   | none=>none) else none
  | _,_,_=>none
 | _,_,_=>none
theorem UZ {E:Env} {o:Oper} {s:bK} {κ:cC→Option R} {z:R} {x y:Operand} {t:TypeId} (ho:o.op=.makeSlice t x y) (hs:s.ok) (h:Rg E s t (s.val x) (s.val y) κ=some z):we E.P o s κ z:=by
 unfold Rg at h
 split at h
 ·rename_i l c et hx hy ht
  have h1:dT s.st x (.int .i64 l):=b8 hx
  have h2:dT s.st y (.int .i64 c):=b8 hy
  split at h
  ·rename_i ti zs u hi hz _
   split at h
   ·rename_i hc
    simp only [Bool.and_eq_true] at hc
    have e1:=Nat.eq_of_beq_eq_true hc.1
    have e2:=Nat.eq_of_beq_eq_true hc.2
    split at h
    ·rename_i ds rR
     split at h
     ·rename_i e he
      obtain ⟨q,h⟩:=gh h
      obtain ⟨q0,h⟩:=gh h
      have dL:@LT.lt Int _ 0 l:=by simpa only [bN,decide_eq_true_eq] using q0
      have Lc:∀ {m:Nat},m=Int.toNat l→m≠0:=fun {m} e h0=>by
       have h2:Int.toNat l=0:=e▸h0
       have h3:=Int.toNat_eq_zero.1 h2
       exact absurd dL (Int.not_lt.2 h3)
      obtain ⟨q1,q2,q3,q4⟩:=UT q
      obtain ⟨z1,z2⟩:=rJ hz s.H s.N
      obtain ⟨c1,c2⟩:=Bw rR s.H
      have mO:=Q4 false (fun h=>by cases h) (P:=E.P) (N:=s.N) (e:=cy u (List.replicate (Int.toNat l) e)) ho h1 h2 ht hi z1 (by rw [bE];exact e1) c1 c2 q1 q2 q3 q4 (fun i j c8 lu=>by
       rw [dy _ _ _ (by omega)]
       simp only [cy]
       have:(List.replicate (Int.toNat l) e).getD i u.df=e:=by simp [List.getD,c8]
       rw [this]
       intro w1 F1 Kj K1 v1 Jm
       exact Kl rR he j (by omega) Jm)
      refine iO (k:=1) hs h mO nD ?_ (by simp only [TA.wf];omega) ?_ (fun l' e=>by cases e)
      ·simp only [TA.av,fj,rI,if_true,List.length_replicate]
       rw [e2]
       intro w1 F1 Kj K1 v1 Jm
       have Jm:VR w1 F1 Kj K1 (.ms s.N 0 l.toNat (eR u)) v1:=Jm
       show VR w1 F1 Kj K1 (.vs s.N l.toNat (eR u)) v1
       cases Jm with
       | ms _ _ _ _ cap sz t' bY hc2 hs2 fw=>
        rw [Nat.zero_mul,Nat.zero_add] at *
        exact .vs _ _ _ cap sz t' (Lc rfl) bY hc2 hs2 fw
      ·rw [wq _ rfl]
       simp only [List.length_replicate]
       rw [e2]
       exact ⟨fun _=>rfl,fun hB=>hB⟩
     ·cases h
    ·cases h
   ·cases h
  ·cases h
 ·cases h
def Hk (s:bK):List (Nat×Operand)→Option (List (Nat×List TA))
 | []=>some []
 | (i,x)::r=>match Bu s.H (s.val x),Hk s r with
  | some l,some q=>some ((i,l)::q)
  | _,_=>none
theorem Ar {s:bK} (hs:s.ok):∀ {ps:List (Nat×Operand)} {q:List (Nat×List TA)},Hk s ps=some q→DY s.st ps (q.map fun p=>(p.1,dJ s.H p.2))∧∀ p,p∈q→gQ s.H s.N p.2
 | [],q,h=>by cases h;exact ⟨.nil,fun p hp=>by cases hp⟩
 | (i,x)::r,q,h=>by
  simp only [Hk] at h
  split at h
  ·rename_i l q' hl hq
   cases h
   obtain ⟨h1,h2⟩:=Ar hs hq
   obtain ⟨k1,k2⟩:=xR hl (fX hs x)
   refine ⟨.cons (fQ s x) k1 h1,fun p hp=>?_⟩
   rcases List.mem_cons.1 hp with e | e
   ·rw [e];exact k2
   ·exact h2 p e
  ·cases h
theorem As {α β:Type} (f:α→β) {place:Nat→Option (Nat×Nat)}:∀ {q:List (Nat×List α)} {cs r:List α},nS place cs q=some r→nS place (cs.map f) (q.map fun p=>(p.1,p.2.map f))=some (r.map f)
 | [],cs,r,h=>by cases h;rfl
 | (i,l)::q,cs,r,h=>by
  simp only [nS] at h
  simp only [List.map_cons,nS]
  split at h
  ·cases h
  ·rename_i off size hp
   split at h
   ·rename_i hb
    simp only [List.length_map,hb,if_true]
    rw [← S0]
    exact As f h
   ·cases h
theorem Ez {α:Type} {place:Nat→Option (Nat×Nat)}:∀ {q:List (Nat×List α)} {cs r:List α},nS place cs q=some r→∀ a,a∈r→a∈cs∨∃ p,p∈q∧a∈p.2
 | [],cs,r,h,a,ha=>by cases h;exact .inl ha
 | (i,l)::q,cs,r,h,a,ha=>by
  simp only [nS] at h
  split at h
  ·cases h
  ·split at h
   ·rcases Ez h a ha with k | ⟨p,k1,k2⟩
    ·rcases S3 k with k | k
     ·exact .inl k
     ·exact .inr ⟨(i,l),by simp,k⟩
    ·exact .inr ⟨p,by simp [k1],k2⟩
   ·cases h
theorem Rh {α:Type} {place:Nat→Option (Nat×Nat)}:∀ {q:List (Nat×List α)} {cs r:List α},nS place cs q=some r→r.length=cs.length
 | [],cs,r,h=>by cases h;rfl
 | (i,l)::q,cs,r,h=>by
  simp only [nS] at h
  split at h
  ·cases h
  ·split at h
   ·rw [Rh h,uy]
   ·cases h
def L2 (P:Program) (s:bK) (t:TypeId) (ps:List (Nat×Operand)) (κ:cC→Option R):Option R:=
 match P.underlying t with
 | some (.struct fs)=>match D5 P t,IK P fs.toList,Hk s ps with
  | some zs,some pl,some q=>match nS (fun i=>pl[i]?) zs q with
   | some r=>κ ⟨.agg r,[],0⟩
   | none=>none
  | _,_,_=>none
 | _=>none
theorem Nt {o:Oper} {s:bK} {κ:cC→Option R} {z:R} {t:TypeId} {ps:List (Nat×Operand)} (ho:o.op=.build t ⟨ps⟩) (hs:s.ok) (h:L2 P s t ps κ=some z):we P o s κ z:=by
 unfold L2 at h
 split at h
 ·rename_i fs ht
  split at h
  ·rename_i zs pl q hz hp hq
   split at h
   ·rename_i r hr
    obtain ⟨z1,z2⟩:=rJ hz s.H s.N
    obtain ⟨p1,p2⟩:=Ar hs hq
    have hf:=As (TA.av s.H) hr
    have e:(q.map fun p=>(p.1,p.2.map (TA.av s.H)))=q.map fun p=>(p.1,dJ s.H p.2):=List.map_congr_left fun p _=>by rw [cR]
    rw [e] at hf
    have mO:=Zo (P:=P) ho ht z1 hp p1 (r:=dJ s.H r) (by rw [cR,cR];exact hf)
    refine rH h (by simpa only [TA.av] using mO) ?_
    simp only [TA.wf]
    refine cZ.2 fun a ha=>?_
    rcases Ez hr a ha with k | ⟨p,k1,k2⟩
    ·exact cZ.1 z2 a k
    ·exact cZ.1 (p2 p k1) a k2
   ·cases h
  ·cases h
 ·cases h
def aba (t:Ty):Nat→List TA→Option (List t.dn)
 | 0,_=>some []
 | n+1,cs=>match rG (FF t) (cs.take (eR t)) with
  | some ds=>match LY t ds,aba t n (cs.drop (eR t)) with
   | some e,some r=>some (e::r)
   | _,_=>none
  | none=>none
theorem V_ {t:Ty}:∀ {n:Nat} {cs:List TA} {xs:List t.dn},aba t n cs=some xs→n*eR t≤cs.length→xs.length=n∧(∀ a,a∈cs.take (n*eR t)→D6 a≠false)∧(∀ H a,a∈dJ H (cs.take (n*eR t))→One a)∧
  ∀ H i j,i < n→j < eR t→gZ ((cs.getD (i*eR t+j) .top).av H) (cy t xs i j)
 | 0,cs,xs,h,_=>by
  cases h
  exact ⟨rfl,by simp,by simp [dJ],fun H i j hi=>by omega⟩
 | n+1,cs,xs,h,hl=>by
  simp only [aba] at h
  split at h
  ·rename_i ds rR
   split at h
   ·rename_i e r he hr
    cases h
    rw [Nat.add_mul,Nat.one_mul] at hl ⊢
    obtain ⟨h1,h2,h3,h4⟩:=V_ hr (by simp;omega)
    have hsp:cs.take (n*eR t+eR t)=cs.take (eR t)++(cs.drop (eR t)).take (n*eR t):=by
     rw [Nat.add_comm,List.take_add]
    refine ⟨by simp [h1],fun a ha=>?_,fun H a ha=>?_,fun H i j hi hj=>?_⟩
    ·rw [hsp] at ha
     rcases List.mem_append.1 ha with k | k
     ·exact tx rR a k
     ·exact h2 a k
    ·rw [hsp,cR,List.map_append,← cR,← cR] at ha
     rcases List.mem_append.1 ha with k | k
     ·exact (Bw rR H).2 a k
     ·exact h3 H a k
    ·cases i with
     | zero=>
      simp only [Nat.zero_mul,Nat.zero_add,cy]
      have S6:j < (cs.take (eR t)).length:=by simp;omega
      have e2:(cs.take (eR t)).getD j .top=cs.getD j .top:=by simp [List.getD,List.getElem?_take,hj]
      rw [← e2]
      intro w1 F1 Kj K1 v1 Jm
      exact Kl rR he j S6 Jm
     | succ i=>
      have e2:(cs.drop (eR t)).getD (i*eR t+j) .top=cs.getD ((i+1)*eR t+j) .top:=by
       simp only [List.getD,List.getElem?_drop]
       congr 2
       rw [Nat.add_mul,Nat.one_mul];omega
      rw [← e2]
      intro w1 F1 Kj K1 v1 Jm
      exact h4 H i j (by omega) hj Jm
   ·cases h
  ·cases h
def EA (E:Env) (s:bK) (t:TypeId) (n:Nat) (ps:List (Nat×Operand)) (κ:cC→Option R):Option R:=
 match E.P.underlying t with
 | some (.slice et)=>match E.P.info? et,D5 E.P et,Hk s ps with
  | some ti,some zs,some q=>match nS (fun i=>some (i*ti.size,ti.size)) ((List.range n).flatMap fun _=>zs) q with
   | some r=>if ((Nat.beq zs.length ti.size&&!Nat.beq ti.size 0)&&(n*ti.size).ble 16777216)&&Nat.beq r.length (n*ti.size) then
     (match Nk E.tc et with
     | some u=>if Nat.beq (eR u) ti.size then (match aba u n r with
      | some xs=>κ ⟨.ow s.N,[(s.N,some (.row u .ms xs))],1⟩
      | none=>none) else none
     | none=>κ ⟨.bs s.N n ti.size,[(s.N,some (.box r))],1⟩) else none
   | none=>none
  | _,_,_=>none
 | _=>none
theorem IV {E:Env} {o:Oper} {s:bK} {κ:cC→Option R} {z:R} {t:TypeId} {n:Nat} {ps:List (Nat×Operand)} (ho:o.op=.buildSlice t n ⟨ps⟩) (hs:s.ok) (h:EA E s t n ps κ=some z):we E.P o s κ z:=by
 unfold EA at h
 split at h
 ·rename_i et ht
  split at h
  ·rename_i ti zs q hi hz hq
   split at h
   ·rename_i r hr
    split at h
    ·rename_i hb
     simp only [Bool.and_eq_true,Bool.not_eq_true'] at hb
     have e1:=Nat.eq_of_beq_eq_true hb.1.1.1
     have e2:=Nat.ne_of_beq_eq_false hb.1.1.2
     have e3:=Nat.le_of_ble_eq_true hb.1.2
     have e4:=Nat.eq_of_beq_eq_true hb.2
     obtain ⟨z1,z2⟩:=rJ hz s.H s.N
     obtain ⟨p1,p2⟩:=Ar hs hq
     have hf:=As (TA.av s.H) hr
     have e:(q.map fun p=>(p.1,p.2.map (TA.av s.H)))=q.map fun p=>(p.1,dJ s.H p.2):=List.map_congr_left fun p _=>by rw [cR]
     have e5:((List.range n).flatMap fun _=>zs).map (TA.av s.H)=(List.range n).flatMap fun _=>dJ s.H zs:=by rw [List.map_flatMap,cR]
     rw [e,e5,← cR] at hf
     have hwr:gQ s.H s.N r:=cZ.2 fun a ha=>by
      rcases Ez hr a ha with k | ⟨p,k1,k2⟩
      ·obtain ⟨_,_,k⟩:=List.mem_flatMap.1 k
       exact cZ.1 z2 a k
      ·exact cZ.1 (p2 p k1) a k2
     split at h
     ·rename_i u _
      split at h
      ·rename_i e6
       have e6:=Nat.eq_of_beq_eq_true e6
       split at h
       ·rename_i xs hxs
        obtain ⟨b1,b2,b3,b4⟩:=V_ hxs (by rw [e6];omega)
        have etk:r.take (n*eR u)=r:=List.take_of_length_le (by rw [e6];omega)
        rw [etk] at b2 b3
        have mO:=OO (P:=E.P) (N:=s.N) (e:=cy u xs) ho ht hi z1 (by rw [bE];exact e1) e2 e3 p1 hf
         (fun b cd=>by
          rw [cR] at cd
          obtain ⟨a,ha,rfl⟩:=List.mem_map.1 cd
          cases S5:D6 a with
          | true=>exact xS S5
          | false=>exact absurd S5 (b2 a ha)) (b3 s.H)
         (fun i j c8 lu=>by
          have h4:(i+1)*ti.size≤n*ti.size:=Nat.mul_le_mul_right _ c8
          rw [Nat.add_mul,Nat.one_mul] at h4
          rw [dy _ _ _ (by omega)]
          rw [← e6]
          intro w1 F1 Kj K1 v1 Jm
          exact b4 s.H i j c8 (by omega) Jm)
        refine iO (k:=1) hs h mO nD ?_ (by simp only [TA.wf];omega) ?_ (fun l' e=>by cases e)
        ·simp only [TA.av,fj,rI,if_true,b1,e6]
         exact gZ.refl _
        ·rw [wq _ rfl]
         simp only [b1,e6]
         exact eD.refl _
       ·cases h
      ·cases h
     ·have mO:=IL (P:=E.P) (N:=s.N) ho ht hi z1 (by rw [bE];exact e1) e2 e3 p1 hf
      exact iO (k:=1) hs h mO nD (by simp only [TA.av];exact gZ.refl _) (by simp only [TA.wf]) (IU (N:=s.N) nD hwr) (fun l' e=>by cases e;exact hwr)
    ·cases h
   ·cases h
  ·cases h
 ·cases h
theorem U0 {t:Ty} (xs ys:List t.dn) (i j:Nat):cy t (xs++ys) i j=if i < xs.length then cy t xs i j else cy t ys (i-xs.length) j:=by
 simp only [cy,List.getD]
 split
 ·rename_i h;rw [List.getElem?_append_left h]
 ·rename_i h;rw [List.getElem?_append_right (Nat.le_of_not_lt h)]
def ZC (H:List (Nat×aW)) (t:Ty):TA→Option (List t.dn)
 | .d ⟨.sl u,ys⟩=>if h:u=t then some (h▸(ys:List u.dn)) else none
 | .eQ=>some []
 | .ow id=>match aR H id with
  | some (.row u v ys)=>match v.d with
   | true=>none
   | false=>if h:u=t then some (h▸ys) else none
  | _=>none
 | _=>none
theorem Ri {s:bK} {t:Ty} {y:Operand} {ys:List t.dn} (h:ZC s.H t (s.val y)=some ys) (h0:eR t≠0):Src P s.st y (eR t) ys.length (cy t ys) []:=by
 unfold ZC at h
 split at h
 ·rename_i u zs hy
  split at h
  ·rename_i e
   subst e
   cases h
   exact adh h0 (@b8 s y _ hy)
  ·cases h
 ·rename_i hy
  cases h
  have h1:=@b8 s y _ hy
  simp only [TA.av] at h1
  exact Zp h0 h1 _
 ·rename_i id hy
  split at h
  ·rename_i u v zs hb
   split at h
   ·cases h
   ·rename_i hv
    split at h
    ·rename_i e
     subst e
     cases h
     have h1:=@b8 s y _ hy
     simp only [TA.av,fj,hb] at h1
     exact aaV h0 h1 (by rw [dz hb,wq _ hv]) fun i j _ _=>Lh _ _ _
    ·cases h
  ·cases h
 ·cases h
def Wa (H:List (Nat×aW)):TA→Bool
 | .ow id=>match aR H id with
  | some (.row _ v _)=>v.d
  | _=>false
 | _=>false
def adn (H:List (Nat×aW)) (t:Ty) (a:TA):Option (List t.dn×List Nat):=
 match Wa H a with
 | true=>match a with
  | .ow id=>match aR H id with
   | some (.row u _ ys)=>if h:u=t then some (h▸ys,[id]) else none
   | _=>none
  | _=>none
 | false=>match ZC H t a with
  | some ys=>some (ys,[])
  | none=>none
theorem abb {s:bK} {t:Ty} {y:Operand} {ys:List t.dn} {L:List Nat} (h:adn s.H t (s.val y)=some (ys,L)) (h0:eR t≠0) {v:RV} (hv:v.d=Wa s.H (s.val y)):Src P s.st y (eR t) ys.length (bU v t ys) L:=by
 unfold adn at h
 split at h
 ·rename_i hd
  split at h
  ·rename_i id hy
   split at h
   ·rename_i u v' zs hb
    split at h
    ·rename_i e
     subst e
     cases h
     have h1:=@b8 s y _ hy
     simp only [TA.av,fj,hb] at h1
     have J_:v'.d=true:=by rw [hy] at hd;simpa only [Wa,hb] using hd
     have e:bU v u zs=bU v' u zs:=by funext i j;simp only [bU,hv,hd,J_]
     rw [e]
     exact VV h0 h1 (dz hb)
    ·cases h
   ·cases h
  ·cases h
 ·rename_i hd
  split at h
  ·rename_i zs hz
   cases h
   have e:bU v t ys=cy t ys:=by funext i j;simp only [bU,hv,hd]
   rw [e]
   exact Ri hz h0
  ·cases h
def ado (H:List (Nat×aW)) (d:Bool) (t:Ty):TA→Option (RV×List t.dn×List Nat)
 | .eQ=>match d with
  | true=>some (.dv,[],[])
  | false=>some (.vs,[],[])
 | .ow id=>match aR H id with
  | some (.row u v xs)=>match v.d,d with
   | true,true=>if h:u=t then some (v,h▸xs,[id]) else none
   | false,false=>if h:u=t then some (v,h▸xs,[id]) else none
   | _,_=>none
  | _=>none
 | _=>none
theorem abc {s:bK} {d:Bool} {t:Ty} {x:Operand} {v:RV} {xs:List t.dn} {D:List Nat} (h:ado s.H d t (s.val x)=some (v,xs,D)):Dst s.st x (eR t) v.b xs.length (bU v t xs) D∧v.d=d:=by
 unfold ado at h
 split at h
 ·rename_i hx
  have h1:=@b8 s x _ hx
  simp only [TA.av] at h1
  cases d<;>cases h<;>exact ⟨.eQ _ h1,rfl⟩
 ·rename_i id hx
  split at h
  ·rename_i u v' zs hb
   have h1:=@b8 s x _ hx
   simp only [TA.av,fj,hb] at h1
   split at h
   ·rename_i hv
    split at h
    ·rename_i e
     subst e
     cases h
     exact ⟨.own _ _ _ _ h1 (dz hb),hv⟩
    ·cases h
   ·rename_i hv
    split at h
    ·rename_i e
     subst e
     cases h
     exact ⟨.own _ _ _ _ h1 (dz hb),hv⟩
    ·cases h
   ·cases h
  ·cases h
 ·cases h
theorem U1 {v:RV} {t:Ty} (xs ys:List t.dn) (i j:Nat):bU v t (xs++ys) i j=if i < xs.length then bU v t xs i j else bU v t ys (i-xs.length) j:=by
 simp only [bU,U0]
 split<;>split<;>rfl
def Nu (E:Env) (s:bK) (x y:TA) (t u:TypeId) (κ:cC→Option R):Option R:=
 match E.P.underlying t,E.P.underlying u with
 | some (.slice et),some (.slice _)=>match E.P.info? et,Nk E.tc et with
  | some ti,some q=>match ti.zero with
   | some z=>if ((!Nat.beq ti.size 0&&Nat.beq z.cells.size ti.size)&&ti.bytes.ble 4294967296)&&Nat.beq ti.size (eR q) then (match ado s.H (Wa s.H y) q x,adn s.H q y with
    | some (v,xs,D),some (ys,L)=>if D.all fun i=>!(L.any fun j=>Nat.beq i j) then bC (uF (xs.length+ys.length) ti.bytes) (κ ⟨.ow s.N,(s.N,some (.row q v (xs++ys)))::(D++L).map fun i=>(i,none),1⟩) else none
    | _,_=>none) else none
   | none=>none
  | _,_=>none
 | _,_=>none
theorem S7 {E:Env} {o:Oper} {s:bK} {κ:cC→Option R} {z:R} {x y:Operand} {t u:TypeId} (ho:o.op=.call ⟨.builtin .append,#[x,y],#[t,u]⟩) (hs:s.ok) (h:Nu E s (s.val x) (s.val y) t u κ=some z):we E.P o s κ z:=by
 unfold Nu at h
 split at h
 ·rename_i et eu ht hu
  split at h
  ·rename_i ti q hi _
   split at h
   ·rename_i z' hz
    split at h
    ·rename_i hc
     simp only [Bool.and_eq_true,Bool.not_eq_true'] at hc
     have e0:=Nat.ne_of_beq_eq_false hc.1.1.1
     have e1:=Nat.eq_of_beq_eq_true hc.1.1.2
     have e2:=Nat.le_of_ble_eq_true hc.1.2
     have e3:=Nat.eq_of_beq_eq_true hc.2
     split at h
     ·rename_i v xs D ys L hd g6
      split at h
      ·rename_i agn
       obtain ⟨qb,h⟩:=gh h
       obtain ⟨b1,b2⟩:=aa4 qb
       obtain ⟨Nh,hdv⟩:=abc hd
       have Ig:=abb (P:=E.P) g6 (by omega) hdv
       rw [← e3] at Nh Ig
       have mO:=Xq (P:=E.P) (N:=s.N) (e':=bU v q (xs++ys)) ho ht hu hi hz e0 e1 Nh Ig (fun id h1 h2=>by
        have:=List.all_eq_true.1 agn id h1
        simp only [Bool.not_eq_true',List.any_eq_false] at this
        exact this id h2 (by simp)) b1 b2 e2 (fun i j _ _=>U1 xs ys i j)
       have sub:Sub s.H (cz s.H ((s.N,some (.row q v (xs++ys)))::(D++L).map fun i=>(i,none))) s.N:=y8 fun h=>absurd h (by omega)
       refine ⟨⟨.ow s.N,(s.N,some (.row q v (xs++ys)))::(D++L).map fun i=>(i,none),1⟩,Q6 (k:=1) hs mO sub ?_ ?_,⟨sub,by simp only [TA.wf];omega,fun id l hl=>?_⟩,h⟩
       ·simp only [TA.av,fj,cz,aR,Nat.beq_refl,List.length_append]
        rw [e3]
        exact gZ.refl _
       ·simp only [aW.di,List.length_append]
        rw [e3]
        exact eD.refl _
       ·simp only [List.mem_cons,Prod.mk.injEq,Option.some.injEq,List.mem_map] at hl
        rcases hl with ⟨_,h⟩ | ⟨_,_,_,h⟩
        ·rw [h];simp only [aW.refs,gQ]
        ·cases h
      ·cases h
     ·cases h
    ·cases h
   ·cases h
  ·cases h
 ·cases h
def leq (m n:Nat):Bool:=Nat.beq m n
def U2 (E:Env) (s:bK) (x y:TA) (t:TypeId) (κ:cC→Option R):Option R:=
 match E.P.underlying t,x with
 | some (.slice et),.ow id=>match E.P.info? et,aR s.H id with
  | some ti,some (.row q v xs)=>if (!Nat.beq ti.size 0&&Nat.beq ti.size (eR q))&&!v.d then (match ZC s.H q y with
   | some ys=>bC (leq ys.length xs.length) (κ ⟨.d ⟨.int .i64,(xs.length:Int)⟩,[(id,some (.row q v ys))],0⟩)
   | none=>none) else none
  | _,_=>none
 | _,_=>none
theorem XD {E:Env} {o:Oper} {s:bK} {κ:cC→Option R} {z:R} {x y:Operand} {t u:TypeId} (ho:o.op=.call ⟨.builtin .copy,#[x,y],#[t,u]⟩) (hs:s.ok) (h:U2 E s (s.val x) (s.val y) t κ=some z):we E.P o s κ z:=by
 unfold U2 at h
 split at h
 ·rename_i et id ht hx
  split at h
  ·rename_i ti q v xs hi hb
   split at h
   ·rename_i hc
    simp only [Bool.and_eq_true,Bool.not_eq_true'] at hc
    have hvd:=hc.2
    have hc:=hc.1
    have e0:=Nat.ne_of_beq_eq_false hc.1
    have e1:=Nat.eq_of_beq_eq_true hc.2
    split at h
    ·rename_i ys g6
     obtain ⟨qb,h⟩:=gh h
     have el:ys.length=xs.length:=Nat.eq_of_beq_eq_true qb
     have Ig:=Ri (P:=E.P) g6 (by omega)
     have h1:=@b8 s x _ hx
     simp only [TA.av,fj,hb] at h1
     rw [← e1] at h1 Ig
     rw [el] at Ig
     have mO:=aaW (P:=E.P) (v:=v.b) (id:=id) (e:=cy q xs) ho ht hi e0 h1 (by rw [dz hb,wq _ hvd];simp only [e1]) Ig (fun i j _ _=>Lh _ _ _)
     refine iO (k:=0) hs h mO (V7 hb el.symm) (by simp only [TA.av,cK];exact gZ.refl _) (by simp only [TA.wf]) ?_ (fun l' e=>by cases e)
     rw [wq _ hvd]
     simp only [el,e1]
     exact eD.refl _
    ·cases h
   ·cases h
  ·cases h
 ·cases h
def ZD (P:Program) (H:List (Nat×aW)) (x:TA) (t:TypeId) (κ:cC→Option R):Option R:=
 match P.underlying t with
 | some d=>match x with
  | .d ⟨.str,m⟩=>if QZ d then κ ⟨.d ⟨.int .i64,((List.length (α:=UInt8) m:Nat):Int)⟩,[],0⟩ else none
  | .d ⟨.sl u,xs⟩=>if Hd d then κ ⟨.d ⟨.int .i64,((List.length (α:=u.dn) xs:Nat):Int)⟩,[],0⟩ else none
  | .eQ=>if Hd d then κ ⟨.d ⟨.int .i64,(0:Int)⟩,[],0⟩ else none
  | .ow id=>match aR H id with
   | some (.row _ _ xs)=>if Hd d then κ ⟨.d ⟨.int .i64,((xs.length:Nat):Int)⟩,[],0⟩ else none
   | some (.c5 _ _ xs _ _)=>if Hd d then κ ⟨.d ⟨.int .i64,((xs.length:Nat):Int)⟩,[],0⟩ else none
   | _=>none
  | .bs _ n _=>if Hd d then κ ⟨.d ⟨.int .i64,((n:Nat):Int)⟩,[],0⟩ else none
  | _=>none
 | none=>none
theorem ZE {o:Oper} {s:bK} {κ:cC→Option R} {z:R} {x:Operand} {t:TypeId} (ho:o.op=.call ⟨.builtin .len,#[x],#[t]⟩) (h:ZD P s.H (s.val x) t κ=some z):we P o s κ z:=by
 unfold ZD at h
 split at h
 ·rename_i d ht
  split at h
  ·rename_i m hx
   split at h
   ·rename_i hd
    have h1:dT s.st x (.str m):=b8 hx
    exact mM h (UH ho h1 ht hd)
   ·cases h
  ·rename_i u xs hx
   split at h
   ·rename_i hd
    have h1:=@b8 s x _ hx
    exact mM h (M7 ho h1 rfl ht hd)
   ·cases h
  ·rename_i hx
   split at h
   ·rename_i hd
    have h1:=@b8 s x _ hx
    simp only [TA.av] at h1
    exact mM h (M7 (n:=0) ho h1 rfl ht hd)
   ·cases h
  ·rename_i id hx
   split at h
   ·rename_i u v xs hb
    split at h
    ·rename_i hd
     have h1:=@b8 s x _ hx
     simp only [TA.av,fj,hb] at h1
     exact mM h (M7 (n:=xs.length) ho h1 (by cases v<;>rfl) ht hd)
    ·cases h
   ·rename_i u v xs _ _ hb
    split at h
    ·rename_i hd
     have h1:=@b8 s x _ hx
     simp only [TA.av,fj,hb] at h1
     exact mM h (M7 (n:=xs.length) ho h1 (by cases v<;>rfl) ht hd)
    ·cases h
   ·cases h
  ·rename_i id n aZ hx
   split at h
   ·rename_i hd
    have h1:=@b8 s x _ hx
    simp only [TA.av] at h1
    exact mM h (M7 (n:=n) ho h1 rfl ht hd)
   ·cases h
  ·cases h
 ·cases h
def XE (s:bK) (d:Int):Option Operand→Option Int
 | none=>some d
 | some x=>match s.val x with
  | .d ⟨.int _,i⟩=>some i
  | _=>none
theorem L3 {s:bK} {d i:Int} {x:Option Operand} (h:XE s d x=some i):Bnd s.st d x i:=by
 unfold XE at h
 split at h
 ·cases h;exact .inl ⟨rfl,rfl⟩
 ·rename_i y
  split at h
  ·rename_i k j hy
   cases h
   exact .inr ⟨y,k,rfl,b8 hy⟩
  ·cases h
theorem ZF {aZ n m:Nat} {e f:Nat→Nat→AV} (hn:n=m) (h:∀ i j,i < n→e i j=f i j):gZ (.fs aZ n e) (.fs aZ m f):=by
 subst hn
 intro w F μ K v hv
 cases hv with
 | fs _ _ _ b o cap uu hF hc' hu hv=>exact .fs _ _ _ b o cap uu hF hc' hu fun i j hi hj=>h i j hi▸hv i j hi hj
 | uw=>exact .uw _ _ _ _
theorem abd (u:Ty) (xs:List u.dn) (l h:Int) (e3:h≤xs.length):gZ (.fs (eR u) (h.toNat-l.toNat) fun i j=>cy u xs (l.toNat+i) j) (cK ⟨.sl u,OM xs l h⟩):=by
 refine ZF ?_ fun i j hi=>?_
 ·show _=(OM xs l h).length
  simp only [OM,List.length_drop,List.length_take];omega
 ·show cy u xs (l.toNat+i) j=cy u (OM xs l h) i j
  simp only [cy,OM,List.getD,List.getElem?_drop,List.getElem?_take]
  rw [if_pos (by omega)]
def Rj (P:Program) (s:bK) (t:TypeId) (x:TA) (lo hi:Option Operand) (κ:cC→Option R):Option R:=
 match x,P.underlying t with
 | .d ⟨.str,m⟩,some .string=>match XE s 0 lo,XE s (List.length (α:=UInt8) m:Nat) hi with
  | some l,some h=>bC (aa3 l h (List.length (α:=UInt8) m)) (κ ⟨.d ⟨.str,OM (α:=UInt8) m l h⟩,[],0⟩)
  | _,_=>none
 | .d ⟨.sl u,xs⟩,some (.slice et)=>match P.info? et,XE s 0 lo,XE s (List.length (α:=u.dn) xs:Nat) hi with
  | some ti,some l,some h=>if Nat.beq ti.size (eR u) then bC (aa3 l h (List.length (α:=u.dn) xs)) (κ ⟨.d ⟨.sl u,OM (α:=u.dn) xs l h⟩,[],0⟩) else none
  | _,_,_=>none
 | _,_=>none
theorem U3 {o:Oper} {s:bK} {κ:cC→Option R} {z:R} {x:Operand} {t:TypeId} {lo hi:Option Operand} (ho:o.op=.slice t x lo hi none) (h:Rj P s t (s.val x) lo hi κ=some z):we P o s κ z:=by
 unfold Rj at h
 split at h
 ·rename_i m hx ht
  split at h
  ·rename_i l h' hl hh
   obtain ⟨e,h⟩:=gh h
   obtain ⟨e1,e2,e3⟩:=V3 e
   have h1:dT s.st x (.str m):=b8 hx
   exact mM h (SO ho h1 ht (L3 hl) (L3 hh) e1 e2 e3)
  ·cases h
 ·rename_i u xs et hx ht
  split at h
  ·rename_i ti l h' c8 hl hh
   split at h
   ·rename_i he
    have he:=Nat.eq_of_beq_eq_true he
    obtain ⟨e,h⟩:=gh h
    obtain ⟨e1,e2,e3⟩:=V3 e
    have h1:dT s.st x (.fs (eR u) (List.length (α:=u.dn) xs) (cy u xs)):=@b8 s x _ hx
    have mO:=UI (P:=P) ho h1 ht c8 he (L3 hl) (L3 hh) e1 e2 e3
    refine jv h mO ?_ (by simp only [TA.wf])
    simp only [TA.av]
    exact abd u xs l h' e3
   ·cases h
  ·cases h
 ·cases h
def ZG (s:bK) (fn:Fn) (xs ys:List Operand) (κ:cC→Option R):Option R:=κ ⟨.fn fn (xs.map s.val) (ys.map s.val),[],0⟩
theorem At (s:bK):∀ xs:List Operand,OL s.st xs (dJ s.H (xs.map s.val))
 | []=>by simp only [List.map_nil,dJ];exact OL.nil
 | x::r=>by simp only [List.map_cons,dJ];exact OL.cons (fQ s x) (At s r)
theorem Wb {s:bK} (hs:s.ok) (xs:List Operand):gQ s.H s.N (xs.map s.val):=cZ.2 fun a ha=>by
 obtain ⟨x,_,rfl⟩:=List.mem_map.1 ha
 exact fX hs x
theorem XF {o:Oper} {s:bK} {κ:cC→Option R} {z:R} {fn:Fn} {xs ys:List Operand} (ho:o.op=.makeFunc fn ⟨xs⟩ ⟨ys⟩) (hs:s.ok) (h:ZG s fn xs ys κ=some z):we P o s κ z:=
 rH h (by simp only [TA.av];exact SH ho (At s xs) (At s ys)) (by simp only [TA.wf];exact ⟨Wb hs xs,Wb hs ys⟩)
def Rk (P:Program) (t:TypeId) (x:TA) (κ:cC→Option R):Option R:=
 match P.underlying t with
 | some d=>if UG d then none else κ ⟨.nX t x,[],0⟩
 | none=>none
theorem U4 {o:Oper} {s:bK} {κ:cC→Option R} {z:R} {x:Operand} {t:TypeId} (ho:o.op=.makeInterface t x) (hs:s.ok) (h:Rk P t (s.val x) κ=some z):we P o s κ z:=by
 unfold Rk at h
 split at h
 ·rename_i d hd
  split at h
  ·cases h
  ·rename_i hi
   exact rH h (by simp only [TA.av];exact Kb ho (fQ s x) hd (by simpa using hi)) (by simp only [TA.wf];exact fX hs x)
 ·cases h
def ev0 (E:Env) (o:Oper) (s:bK) (κ:cC→Option R):Option R:=
 match o.op with
 | .move x | .assign x=>κ ⟨s.val x,[],0⟩
 | .pick c x y=>UU (s.val c) (s.val x) (s.val y) κ
 | .extract x i=>Kk (s.val x) i κ
 | .unOp op _ x=>adm op (s.val x) κ
 | .binOp op t x y _=>Zx E.P op t (s.val x) (s.val y) κ
 | .convert t u x=>Q_ E.P t u (s.val x) κ
 | .index t x y=>LZ E.P t (s.val x) (s.val y) κ
 | .fieldAddr t x k=>D4 E.P s.H t (s.val x) k κ
 | .nilCheck x=>Hi s.H (s.val x) κ
 | .indexAddr t x y=>UW E.P s.H t (s.val x) (s.val y) κ
 | .load t x=>Rb E.P s.H t (s.val x) κ
 | .field t x k=>Rc E.P t (s.val x) k κ
 | .box _ x=>V8 s (s.val x) κ
 | .alloc t=>L0 E.P s t κ
 | .store t x y=>L1 E.P s.H t (s.val x) (s.val y) κ
 | .makeSlice t x y=>Rf E s t (s.val x) (s.val y) κ
 | .build t ⟨ps⟩=>L2 E.P s t ps κ
 | .buildSlice t n ⟨ps⟩=>EA E s t n ps κ
 | .makeFunc fn ⟨xs⟩ ⟨ys⟩=>ZG s fn xs ys κ
 | .makeInterface t x=>Rk E.P t (s.val x) κ
 | .slice t x lo hi none=>Rj E.P s t (s.val x) lo hi κ
 | .call ⟨.builtin .len,⟨[x]⟩,⟨[t]⟩⟩=>ZD E.P s.H (s.val x) t κ
 | .call ⟨.builtin .append,⟨[x,y]⟩,⟨[t,u]⟩⟩=>Nu E s (s.val x) (s.val y) t u κ
 | .call ⟨.builtin .copy,⟨[x,y]⟩,⟨[t,_]⟩⟩=>U2 E s (s.val x) (s.val y) t κ
 | _=>none
theorem adp {E:Env} {o:Oper} {s:bK} {κ:cC→Option R} {z:R} (hs:s.ok) (h:ev0 E o s κ=some z):we E.P o s κ z:=by
 unfold ev0 at h
 split at h
 ·rename_i x ho;exact rH h (VQ (.inl ho) (fQ s x)) (fX hs x)
 ·rename_i x ho;exact rH h (VQ (.inr ho) (fQ s x)) (fX hs x)
 ·rename_i ho;exact XA ho hs h
 ·rename_i ho;exact Q9 ho hs h
 ·rename_i ho;exact aa9 ho h
 ·rename_i ho;exact Zy ho h
 ·rename_i ho;exact PS ho h
 ·rename_i ho;exact Nn ho h
 ·rename_i ho;exact Np ho hs h
 ·rename_i ho;exact OR ho hs h
 ·rename_i ho;exact XC ho hs h
 ·rename_i ho;exact PT ho hs h
 ·rename_i ho;exact UY ho hs h
 ·rename_i ho;exact SZ ho hs h
 ·rename_i ho;exact Nr ho hs h
 ·rename_i ho;exact Ns ho hs h
 ·rename_i ho;exact PU ho hs h
 ·rename_i ho;exact Nt ho hs h
 ·rename_i ho;exact IV ho hs h
 ·rename_i ho;exact XF ho hs h
 ·rename_i ho;exact U4 ho hs h
 ·rename_i ho;exact U3 ho h
 ·rename_i ho;exact ZE ho h
 ·rename_i ho;exact S7 ho hs h
 ·rename_i ho;exact XD ho hs h
 ·cases h
end Go.Proofs.YtljfmaaadnoggaaGreatDoor.cU
