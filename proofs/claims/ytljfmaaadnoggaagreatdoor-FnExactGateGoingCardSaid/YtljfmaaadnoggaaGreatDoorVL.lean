/- The evaluator of operations: rows that are made, literals, append, copy, parts; all operations but calls. No condition. -/
import Derived.Test.YtljfmaaadnoggaaGreatDoorVK
set_option linter.unusedSimpArgs false
set_option linter.unusedVariables false
namespace Go.Proofs.YtljfmaaadnoggaaGreatDoor.cX
open Go Go.RowKit
variable {w w' xW:World} {F F' Cq O O' wx:Nat→Prop} {μ bC kZ:Nat→Nat} {K K' Gg:Nat→Prop} {ft b8:Nat→Nat→Prop} {P:Program} {R:Type}
theorem MG {t:Ty} {e:t.dn} {cs:List TA} {ds:List cI} {H:List (Nat×aY)} (hd:tq (Ie t) cs=some ds) (he:Ok t ds=some e) (j:Nat) (hj:j < cs.length):iu ((cs.getD j .top).av H) ((sV t e).getD j .top):=by
 obtain ⟨d1,d2,d3,d4⟩:=n9 hd
 rw [← fx,eU he]
 intro w F μ K v hv
 exact d4 H j hj hv
def T8 (E:Env) (s:bQ) (t:TypeId) (x y:TA) (κ:cE→Option R):Option R:=
 match x,y,E.P.underlying t with
 | .d ⟨.int .i64,l⟩,.d ⟨.int .i64,c⟩,some (.slice et)=>match E.P.info? et,Gv E.P et,PX E.tc et with
  | some ti,some zs,some u=>if Nat.beq zs.length ti.size&&Nat.beq ti.size (fg u) then (match tq (Ie u) zs with
   | some ds=>match Ok u ds with
    | some e=>bE (GM l c ti.bytes) (κ ⟨.ow s.N,[(s.N,some (.row u .ms (List.replicate (Int.toNat l) e)))],1⟩)
    | none=>none
   | none=>none) else none
  | _,_,_=>none
 | _,_,_=>none
theorem DD {ts:List Ty} {l:List TA} {r:List cI} (h:tq ts l=some r) (H:List (Nat×aY)):(∀ a,a∈dU H l→Sh a)∧∀ a,a∈dU H l→One a:=by
 refine ⟨fun b hb=>?_,fun b hb=>?_⟩
 ·rw [cV] at hb
  obtain ⟨a,ha,rfl⟩:=List.mem_map.1 hb
  cases V3:Gx a with
  | true=>exact zZ V3
  | false=>exact absurd V3 (vp h a ha)
 ·rw [cV] at hb
  obtain ⟨a,ha,rfl⟩:=List.mem_map.1 hb
  obtain ⟨k,hk,rfl⟩:=List.getElem_of_mem ha
  obtain ⟨d1,d2,d3,d4⟩:=n9 h
  intro w F μ K v' Mv
  have hv2:VR w F μ K ((l.getD k .top).av H) v':=by rw [getD_eq _ _ hk];exact Mv
  have hk2:k < r.length:=by omega
  have h5:(r.map cN).getD k .top=cN r[k]:=by simp [List.getD,hk2]
  exact K_ (d3 _ (List.getElem_mem hk2)) (h5▸d4 H k hk hv2)
theorem yp (H:List (Nat×aY)) {t:Ty} {v:RV} {xs:List t.dn} (h:v.d=false):(aY.row t v xs).dw H=.row v.b (fg t) xs.length (cC t xs):=by
 simp only [aY.dw]
 congr 1
 funext i j
 simp only [bY,h]
theorem Sp {E:Env} {o:Oper} {s:bQ} {κ:cE→Option R} {z:R} {x y:Operand} {t:TypeId} (ho:o.op=.makeSlice t x y) (hs:s.ok) (h:T8 E s t (s.val x) (s.val y) κ=some z):xY E.P o s κ z:=by
 unfold T8 at h
 split at h
 ·rename_i l c et hx hy ht
  have h1:ec s.st x (.int .i64 l):=b9 hx
  have h2:ec s.st y (.int .i64 c):=b9 hy
  split at h
  ·rename_i ti zs u hi hz _
   split at h
   ·rename_i hc
    simp only [Bool.and_eq_true] at hc
    have e1:=Nat.eq_of_beq_eq_true hc.1
    have e2:=Nat.eq_of_beq_eq_true hc.2
    split at h
    ·rename_i ds tC
     split at h
     ·rename_i e he
      obtain ⟨q,h⟩:=gH h
      obtain ⟨q1,q2,q3,q4⟩:=XT q
      obtain ⟨z1,z2⟩:=tu hz s.H s.N
      obtain ⟨c1,c2⟩:=DD tC s.H
      have nA:=TV false (fun h=>by cases h) (P:=E.P) (N:=s.N) (e:=cC u (List.replicate (Int.toNat l) e)) ho h1 h2 ht hi z1 (by rw [bI];exact e1) c1 c2 q1 q2 q3 q4 (fun i j c9 ko=>by
       rw [dH _ _ _ (by omega)]
       simp only [cC]
       have:(List.replicate (Int.toNat l) e).getD i u.df=e:=by simp [List.getD,c9]
       rw [this]
       intro w1 F1 ME K1 v1 LG
       exact MG tC he j (by omega) LG)
      refine iL (k:=1) hs h nA oU ?_ (by simp only [TA.wf];omega) ?_ (fun l' e=>by cases e)
      ·simp only [TA.av,fM,tt,if_true,List.length_replicate]
       rw [e2]
       exact iu.refl _
      ·rw [yp _ rfl]
       simp only [List.length_replicate]
       rw [e2]
       exact eV.refl _
     ·cases h
    ·cases h
   ·cases h
  ·cases h
 ·cases h
def T9 (E:Env) (s:bQ) (t:TypeId) (x y:TA) (κ:cE→Option R):Option R:=
 match x,y,E.P.underlying t with
 | .d ⟨.int .i64,l⟩,.d ⟨.int .i64,c⟩,some (.slice et)=>match E.P.info? et,Gv E.P et,PX E.tc et with
  | some ti,some zs,some u=>if Nat.beq zs.length ti.size&&Nat.beq ti.size (fg u) then (match tq (Ie u) zs with
   | some ds=>match Ok u ds with
    | some e=>bE (GM l c ti.bytes) (bE (bO 0 l) (κ ⟨.ow s.N,[(s.N,some (.row u .vs (List.replicate (Int.toNat l) e)))],1⟩))
    | none=>none
   | none=>none) else none
  | _,_,_=>none
 | _,_,_=>none
theorem XY {E:Env} {o:Oper} {s:bQ} {κ:cE→Option R} {z:R} {x y:Operand} {t:TypeId} (ho:o.op=.makeSlice t x y) (hs:s.ok) (h:T9 E s t (s.val x) (s.val y) κ=some z):xY E.P o s κ z:=by
 unfold T9 at h
 split at h
 ·rename_i l c et hx hy ht
  have h1:ec s.st x (.int .i64 l):=b9 hx
  have h2:ec s.st y (.int .i64 c):=b9 hy
  split at h
  ·rename_i ti zs u hi hz _
   split at h
   ·rename_i hc
    simp only [Bool.and_eq_true] at hc
    have e1:=Nat.eq_of_beq_eq_true hc.1
    have e2:=Nat.eq_of_beq_eq_true hc.2
    split at h
    ·rename_i ds tC
     split at h
     ·rename_i e he
      obtain ⟨q,h⟩:=gH h
      obtain ⟨q0,h⟩:=gH h
      have dQ:@LT.lt Int _ 0 l:=by simpa only [bO,decide_eq_true_eq] using q0
      have Nw:∀ {m:Nat},m=Int.toNat l→m≠0:=fun {m} e h0=>by
       have h2:Int.toNat l=0:=e▸h0
       have h3:=Int.toNat_eq_zero.1 h2
       exact absurd dQ (Int.not_lt.2 h3)
      obtain ⟨q1,q2,q3,q4⟩:=XT q
      obtain ⟨z1,z2⟩:=tu hz s.H s.N
      obtain ⟨c1,c2⟩:=DD tC s.H
      have nA:=TV false (fun h=>by cases h) (P:=E.P) (N:=s.N) (e:=cC u (List.replicate (Int.toNat l) e)) ho h1 h2 ht hi z1 (by rw [bI];exact e1) c1 c2 q1 q2 q3 q4 (fun i j c9 ko=>by
       rw [dH _ _ _ (by omega)]
       simp only [cC]
       have:(List.replicate (Int.toNat l) e).getD i u.df=e:=by simp [List.getD,c9]
       rw [this]
       intro w1 F1 ME K1 v1 LG
       exact MG tC he j (by omega) LG)
      refine iL (k:=1) hs h nA oU ?_ (by simp only [TA.wf];omega) ?_ (fun l' e=>by cases e)
      ·simp only [TA.av,fM,tt,if_true,List.length_replicate]
       rw [e2]
       intro w1 F1 ME K1 v1 LG
       have LG:VR w1 F1 ME K1 (.ms s.N 0 l.toNat (fg u)) v1:=LG
       show VR w1 F1 ME K1 (.vs s.N l.toNat (fg u)) v1
       cases LG with
       | ms _ _ _ _ cap sz t' cb hc2 hs2 fL=>
        rw [Nat.zero_mul,Nat.zero_add] at *
        exact .vs _ _ _ cap sz t' (Nw rfl) cb hc2 hs2 fL
      ·rw [yp _ rfl]
       simp only [List.length_replicate]
       rw [e2]
       exact ⟨fun _=>rfl,fun hB=>hB⟩
     ·cases h
    ·cases h
   ·cases h
  ·cases h
 ·cases h
def JK (s:bQ):List (Nat×Operand)→Option (List (Nat×List TA))
 | []=>some []
 | (i,x)::r=>match DB s.H (s.val x),JK s r with
  | some l,some q=>some ((i,l)::q)
  | _,_=>none
theorem Cv {s:bQ} (hs:s.ok):∀ {ps:List (Nat×Operand)} {q:List (Nat×List TA)},JK s ps=some q→Gq s.st ps (q.map fun p=>(p.1,dU s.H p.2))∧∀ p,p∈q→iw s.H s.N p.2
 | [],q,h=>by cases h;exact ⟨.nil,fun p hp=>by cases hp⟩
 | (i,x)::r,q,h=>by
  simp only [JK] at h
  split at h
  ·rename_i l q' hl hq
   cases h
   obtain ⟨h1,h2⟩:=Cv hs hq
   obtain ⟨k1,k2⟩:=zY hl (gy hs x)
   refine ⟨.cons (gj s x) k1 h1,fun p hp=>?_⟩
   rcases List.mem_cons.1 hp with e | e
   ·rw [e];exact k2
   ·exact h2 p e
  ·cases h
theorem Cw {α β:Type} (f:α→β) {place:Nat→Option (Nat×Nat)}:∀ {q:List (Nat×List α)} {cs r:List α},pb place cs q=some r→pb place (cs.map f) (q.map fun p=>(p.1,p.2.map f))=some (r.map f)
 | [],cs,r,h=>by cases h;rfl
 | (i,l)::q,cs,r,h=>by
  simp only [pb] at h
  simp only [List.map_cons,pb]
  split at h
  ·cases h
  ·rename_i off size hp
   split at h
   ·rename_i hb
    simp only [List.length_map,hb,if_true]
    rw [← V0]
    exact Cw f h
   ·cases h
theorem G8 {α:Type} {place:Nat→Option (Nat×Nat)}:∀ {q:List (Nat×List α)} {cs r:List α},pb place cs q=some r→∀ a,a∈r→a∈cs∨∃ p,p∈q∧a∈p.2
 | [],cs,r,h,a,ha=>by cases h;exact .inl ha
 | (i,l)::q,cs,r,h,a,ha=>by
  simp only [pb] at h
  split at h
  ·cases h
  ·split at h
   ·rcases G8 h a ha with k | ⟨p,k1,k2⟩
    ·rcases V1 k with k | k
     ·exact .inl k
     ·exact .inr ⟨(i,l),by simp,k⟩
    ·exact .inr ⟨p,by simp [k1],k2⟩
   ·cases h
theorem T_ {α:Type} {place:Nat→Option (Nat×Nat)}:∀ {q:List (Nat×List α)} {cs r:List α},pb place cs q=some r→r.length=cs.length
 | [],cs,r,h=>by cases h;rfl
 | (i,l)::q,cs,r,h=>by
  simp only [pb] at h
  split at h
  ·cases h
  ·split at h
   ·rw [T_ h,wy]
   ·cases h
def Oq (P:Program) (s:bQ) (t:TypeId) (ps:List (Nat×Operand)) (κ:cE→Option R):Option R:=
 match P.underlying t with
 | some (.struct fs)=>match Gv P t,K6 P fs.toList,JK s ps with
  | some zs,some pl,some q=>match pb (fun i=>pl[i]?) zs q with
   | some r=>κ ⟨.agg r,[],0⟩
   | none=>none
  | _,_,_=>none
 | _=>none
theorem P6 {o:Oper} {s:bQ} {κ:cE→Option R} {z:R} {t:TypeId} {ps:List (Nat×Operand)} (ho:o.op=.build t ⟨ps⟩) (hs:s.ok) (h:Oq P s t ps κ=some z):xY P o s κ z:=by
 unfold Oq at h
 split at h
 ·rename_i fs ht
  split at h
  ·rename_i zs pl q hz hp hq
   split at h
   ·rename_i r hr
    obtain ⟨z1,z2⟩:=tu hz s.H s.N
    obtain ⟨p1,p2⟩:=Cv hs hq
    have hf:=Cw (TA.av s.H) hr
    have e:(q.map fun p=>(p.1,p.2.map (TA.av s.H)))=q.map fun p=>(p.1,dU s.H p.2):=List.map_congr_left fun p _=>by rw [cV]
    rw [e] at hf
    have nA:=aci (P:=P) ho ht z1 hp p1 (r:=dU s.H r) (by rw [cV,cV];exact hf)
    refine tr h (by simpa only [TA.av] using nA) ?_
    simp only [TA.wf]
    refine c8.2 fun a ha=>?_
    rcases G8 hr a ha with k | ⟨p,k1,k2⟩
    ·exact c8.1 z2 a k
    ·exact c8.1 (p2 p k1) a k2
   ·cases h
  ·cases h
 ·cases h
def ad3 (t:Ty):Nat→List TA→Option (List t.dn)
 | 0,_=>some []
 | n+1,cs=>match tq (Ie t) (cs.take (fg t)) with
  | some ds=>match Ok t ds,ad3 t n (cs.drop (fg t)) with
   | some e,some r=>some (e::r)
   | _,_=>none
  | none=>none
theorem Zk {t:Ty}:∀ {n:Nat} {cs:List TA} {xs:List t.dn},ad3 t n cs=some xs→n*fg t≤cs.length→xs.length=n∧(∀ a,a∈cs.take (n*fg t)→Gx a≠false)∧(∀ H a,a∈dU H (cs.take (n*fg t))→One a)∧
  ∀ H i j,i < n→j < fg t→iu ((cs.getD (i*fg t+j) .top).av H) (cC t xs i j)
 | 0,cs,xs,h,_=>by
  cases h
  exact ⟨rfl,by simp,by simp [dU],fun H i j hi=>by omega⟩
 | n+1,cs,xs,h,hl=>by
  simp only [ad3] at h
  split at h
  ·rename_i ds tC
   split at h
   ·rename_i e r he hr
    cases h
    rw [Nat.add_mul,Nat.one_mul] at hl ⊢
    obtain ⟨h1,h2,h3,h4⟩:=Zk hr (by simp;omega)
    have hsp:cs.take (n*fg t+fg t)=cs.take (fg t)++(cs.drop (fg t)).take (n*fg t):=by
     rw [Nat.add_comm,List.take_add]
    refine ⟨by simp [h1],fun a ha=>?_,fun H a ha=>?_,fun H i j hi hj=>?_⟩
    ·rw [hsp] at ha
     rcases List.mem_append.1 ha with k | k
     ·exact vp tC a k
     ·exact h2 a k
    ·rw [hsp,cV,List.map_append,← cV,← cV] at ha
     rcases List.mem_append.1 ha with k | k
     ·exact (DD tC H).2 a k
     ·exact h3 H a k
    ·cases i with
     | zero=>
      simp only [Nat.zero_mul,Nat.zero_add,cC]
      have R9:j < (cs.take (fg t)).length:=by simp;omega
      have e2:(cs.take (fg t)).getD j .top=cs.getD j .top:=by simp [List.getD,List.getElem?_take,hj]
      rw [← e2]
      intro w1 F1 ME K1 v1 LG
      exact MG tC he j R9 LG
     | succ i=>
      have e2:(cs.drop (fg t)).getD (i*fg t+j) .top=cs.getD ((i+1)*fg t+j) .top:=by
       simp only [List.getD,List.getElem?_drop]
       congr 2
       rw [Nat.add_mul,Nat.one_mul];omega
      rw [← e2]
      intro w1 F1 ME K1 v1 LG
      exact h4 H i j (by omega) hj LG
   ·cases h
  ·cases h
def G9 (E:Env) (s:bQ) (t:TypeId) (n:Nat) (ps:List (Nat×Operand)) (κ:cE→Option R):Option R:=
 match E.P.underlying t with
 | some (.slice et)=>match E.P.info? et,Gv E.P et,JK s ps with
  | some ti,some zs,some q=>match pb (fun i=>some (i*ti.size,ti.size)) ((List.range n).flatMap fun _=>zs) q with
   | some r=>if ((Nat.beq zs.length ti.size&&!Nat.beq ti.size 0)&&(n*ti.size).ble 16777216)&&Nat.beq r.length (n*ti.size) then
     (match PX E.tc et with
     | some u=>if Nat.beq (fg u) ti.size then (match ad3 u n r with
      | some xs=>κ ⟨.ow s.N,[(s.N,some (.row u .ms xs))],1⟩
      | none=>none) else none
     | none=>κ ⟨.bs s.N n ti.size,[(s.N,some (.box r))],1⟩) else none
   | none=>none
  | _,_,_=>none
 | _=>none
theorem Ld {E:Env} {o:Oper} {s:bQ} {κ:cE→Option R} {z:R} {t:TypeId} {n:Nat} {ps:List (Nat×Operand)} (ho:o.op=.buildSlice t n ⟨ps⟩) (hs:s.ok) (h:G9 E s t n ps κ=some z):xY E.P o s κ z:=by
 unfold G9 at h
 split at h
 ·rename_i et ht
  split at h
  ·rename_i ti zs q hi hz hq
   split at h
   ·rename_i r hr
    split at h
    ·rename_i hb
     simp only [Bool.and_eq_true,Bool.not_eq_true'] at hb
     have e1:=Nat.eq_of_beq_eq_true hb.1.1.1
     have e2:=Nat.ne_of_beq_eq_false hb.1.1.2
     have e3:=Nat.le_of_ble_eq_true hb.1.2
     have e4:=Nat.eq_of_beq_eq_true hb.2
     obtain ⟨z1,z2⟩:=tu hz s.H s.N
     obtain ⟨p1,p2⟩:=Cv hs hq
     have hf:=Cw (TA.av s.H) hr
     have e:(q.map fun p=>(p.1,p.2.map (TA.av s.H)))=q.map fun p=>(p.1,dU s.H p.2):=List.map_congr_left fun p _=>by rw [cV]
     have e5:((List.range n).flatMap fun _=>zs).map (TA.av s.H)=(List.range n).flatMap fun _=>dU s.H zs:=by rw [List.map_flatMap,cV]
     rw [e,e5,← cV] at hf
     have hwr:iw s.H s.N r:=c8.2 fun a ha=>by
      rcases G8 hr a ha with k | ⟨p,k1,k2⟩
      ·obtain ⟨_,_,k⟩:=List.mem_flatMap.1 k
       exact c8.1 z2 a k
      ·exact c8.1 (p2 p k1) a k2
     split at h
     ·rename_i u _
      split at h
      ·rename_i e6
       have e6:=Nat.eq_of_beq_eq_true e6
       split at h
       ·rename_i xs hxs
        obtain ⟨b1,b2,b3,b4⟩:=Zk hxs (by rw [e6];omega)
        have etk:r.take (n*fg u)=r:=List.take_of_length_le (by rw [e6];omega)
        rw [etk] at b2 b3
        have nA:=Rm (P:=E.P) (N:=s.N) (e:=cC u xs) ho ht hi z1 (by rw [bI];exact e1) e2 e3 p1 hf
         (fun b cu=>by
          rw [cV] at cu
          obtain ⟨a,ha,rfl⟩:=List.mem_map.1 cu
          cases V3:Gx a with
          | true=>exact zZ V3
          | false=>exact absurd V3 (b2 a ha)) (b3 s.H)
         (fun i j c9 ko=>by
          have h4:(i+1)*ti.size≤n*ti.size:=Nat.mul_le_mul_right _ c9
          rw [Nat.add_mul,Nat.one_mul] at h4
          rw [dH _ _ _ (by omega)]
          rw [← e6]
          intro w1 F1 ME K1 v1 LG
          exact b4 s.H i j c9 (by omega) LG)
        refine iL (k:=1) hs h nA oU ?_ (by simp only [TA.wf];omega) ?_ (fun l' e=>by cases e)
        ·simp only [TA.av,fM,tt,if_true,b1,e6]
         exact iu.refl _
        ·rw [yp _ rfl]
         simp only [b1,e6]
         exact eV.refl _
       ·cases h
      ·cases h
     ·have nA:=K7 (P:=E.P) (N:=s.N) ho ht hi z1 (by rw [bI];exact e1) e2 e3 p1 hf
      exact iL (k:=1) hs h nA oU (by simp only [TA.av];exact iu.refl _) (by simp only [TA.wf]) (Lc (N:=s.N) oU hwr) (fun l' e=>by cases e;exact hwr)
    ·cases h
   ·cases h
  ·cases h
 ·cases h
theorem XZ {t:Ty} (xs ys:List t.dn) (i j:Nat):cC t (xs++ys) i j=if i < xs.length then cC t xs i j else cC t ys (i-xs.length) j:=by
 simp only [cC,List.getD]
 split
 ·rename_i h;rw [List.getElem?_append_left h]
 ·rename_i h;rw [List.getElem?_append_right (Nat.le_of_not_lt h)]
def acv (H:List (Nat×aY)) (t:Ty):TA→Option (List t.dn)
 | .d ⟨.sl u,ys⟩=>if h:u=t then some (h▸(ys:List u.dn)) else none
 | .ff=>some []
 | .ow id=>match aR H id with
  | some (.row u v ys)=>match v.d with
   | true=>none
   | false=>if h:u=t then some (h▸ys) else none
  | _=>none
 | _=>none
theorem Ua {s:bQ} {t:Ty} {y:Operand} {ys:List t.dn} (h:acv s.H t (s.val y)=some ys) (h0:fg t≠0):Src P s.st y (fg t) ys.length (cC t ys) []:=by
 unfold acv at h
 split at h
 ·rename_i u zs hy
  split at h
  ·rename_i e
   subst e
   cases h
   exact ags h0 (@b9 s y _ hy)
  ·cases h
 ·rename_i hy
  cases h
  have h1:=@b9 s y _ hy
  simp only [TA.av] at h1
  exact acj h0 h1 _
 ·rename_i id hy
  split at h
  ·rename_i u v zs hb
   split at h
   ·cases h
   ·rename_i hv
    split at h
    ·rename_i e
     subst e
     cases h
     have h1:=@b9 s y _ hy
     simp only [TA.av,fM,hb] at h1
     exact adN h0 h1 (by rw [dz hb,yp _ hv]) fun i j _ _=>NA _ _ _
    ·cases h
  ·cases h
 ·cases h
def Zl (H:List (Nat×aY)):TA→Bool
 | .ow id=>match aR H id with
  | some (.row _ v _)=>v.d
  | _=>false
 | _=>false
def agy (H:List (Nat×aY)) (t:Ty) (a:TA):Option (List t.dn×List Nat):=
 match Zl H a with
 | true=>match a with
  | .ow id=>match aR H id with
   | some (.row u _ ys)=>if h:u=t then some (h▸ys,[id]) else none
   | _=>none
  | _=>none
 | false=>match acv H t a with
  | some ys=>some (ys,[])
  | none=>none
theorem ad4 {s:bQ} {t:Ty} {y:Operand} {ys:List t.dn} {L:List Nat} (h:agy s.H t (s.val y)=some (ys,L)) (h0:fg t≠0) {v:RV} (hv:v.d=Zl s.H (s.val y)):Src P s.st y (fg t) ys.length (bY v t ys) L:=by
 unfold agy at h
 split at h
 ·rename_i hd
  split at h
  ·rename_i id hy
   split at h
   ·rename_i u v' zs hb
    split at h
    ·rename_i e
     subst e
     cases h
     have h1:=@b9 s y _ hy
     simp only [TA.av,fM,hb] at h1
     have Mv:v'.d=true:=by rw [hy] at hd;simpa only [Zl,hb] using hd
     have e:bY v u zs=bY v' u zs:=by funext i j;simp only [bY,hv,hd,Mv]
     rw [e]
     exact Y6 h0 h1 (dz hb)
    ·cases h
   ·cases h
  ·cases h
 ·rename_i hd
  split at h
  ·rename_i zs hz
   cases h
   have e:bY v t ys=cC t ys:=by funext i j;simp only [bY,hv,hd]
   rw [e]
   exact Ua hz h0
  ·cases h
def agz (H:List (Nat×aY)) (d:Bool) (t:Ty):TA→Option (RV×List t.dn×List Nat)
 | .ff=>match d with
  | true=>some (.dv,[],[])
  | false=>some (.vs,[],[])
 | .ow id=>match aR H id with
  | some (.row u v xs)=>match v.d,d with
   | true,true=>if h:u=t then some (v,h▸xs,[id]) else none
   | false,false=>if h:u=t then some (v,h▸xs,[id]) else none
   | _,_=>none
  | _=>none
 | _=>none
theorem ad5 {s:bQ} {d:Bool} {t:Ty} {x:Operand} {v:RV} {xs:List t.dn} {D:List Nat} (h:agz s.H d t (s.val x)=some (v,xs,D)):Dst s.st x (fg t) v.b xs.length (bY v t xs) D∧v.d=d:=by
 unfold agz at h
 split at h
 ·rename_i hx
  have h1:=@b9 s x _ hx
  simp only [TA.av] at h1
  cases d<;>cases h<;>exact ⟨.ff _ h1,rfl⟩
 ·rename_i id hx
  split at h
  ·rename_i u v' zs hb
   have h1:=@b9 s x _ hx
   simp only [TA.av,fM,hb] at h1
   split at h
   ·rename_i hv
    split at h
    ·rename_i e
     subst e
     cases h
     exact ⟨.own _ _ _ _ h1 (dz hb),hv⟩
    ·cases h
   ·rename_i hv
    split at h
    ·rename_i e
     subst e
     cases h
     exact ⟨.own _ _ _ _ h1 (dz hb),hv⟩
    ·cases h
   ·cases h
  ·cases h
 ·cases h
theorem X0 {v:RV} {t:Ty} (xs ys:List t.dn) (i j:Nat):bY v t (xs++ys) i j=if i < xs.length then bY v t xs i j else bY v t ys (i-xs.length) j:=by
 simp only [bY,XZ]
 split<;>split<;>rfl
def P7 (E:Env) (s:bQ) (x y:TA) (t u:TypeId) (κ:cE→Option R):Option R:=
 match E.P.underlying t,E.P.underlying u with
 | some (.slice et),some (.slice _)=>match E.P.info? et,PX E.tc et with
  | some ti,some q=>match ti.zero with
   | some z=>if ((!Nat.beq ti.size 0&&Nat.beq z.cells.size ti.size)&&ti.bytes.ble 4294967296)&&Nat.beq ti.size (fg q) then (match agz s.H (Zl s.H y) q x,agy s.H q y with
    | some (v,xs,D),some (ys,L)=>if D.all fun i=>!(L.any fun j=>Nat.beq i j) then bE (tB (xs.length+ys.length) ti.bytes) (κ ⟨.ow s.N,(s.N,some (.row q v (xs++ys)))::(D++L).map fun i=>(i,none),1⟩) else none
    | _,_=>none) else none
   | none=>none
  | _,_=>none
 | _,_=>none
theorem V4 {E:Env} {o:Oper} {s:bQ} {κ:cE→Option R} {z:R} {x y:Operand} {t u:TypeId} (ho:o.op=.call ⟨.builtin .append,#[x,y],#[t,u]⟩) (hs:s.ok) (h:P7 E s (s.val x) (s.val y) t u κ=some z):xY E.P o s κ z:=by
 unfold P7 at h
 split at h
 ·rename_i et eu ht hu
  split at h
  ·rename_i ti q hi _
   split at h
   ·rename_i z' hz
    split at h
    ·rename_i hc
     simp only [Bool.and_eq_true,Bool.not_eq_true'] at hc
     have e0:=Nat.ne_of_beq_eq_false hc.1.1.1
     have e1:=Nat.eq_of_beq_eq_true hc.1.1.2
     have e2:=Nat.le_of_ble_eq_true hc.1.2
     have e3:=Nat.eq_of_beq_eq_true hc.2
     split at h
     ·rename_i v xs D ys L hd iJ
      split at h
      ·rename_i ajk
       obtain ⟨qb,h⟩:=gH h
       obtain ⟨b1,b2⟩:=adW qb
       obtain ⟨PU,hdv⟩:=ad5 hd
       have Ky:=ad4 (P:=E.P) iJ (by omega) hdv
       rw [← e3] at PU Ky
       have nA:=aaD (P:=E.P) (N:=s.N) (e':=bY v q (xs++ys)) ho ht hu hi hz e0 e1 PU Ky (fun id h1 h2=>by
        have:=List.all_eq_true.1 ajk id h1
        simp only [Bool.not_eq_true',List.any_eq_false] at this
        exact this id h2 (by simp)) b1 b2 e2 (fun i j _ _=>X0 xs ys i j)
       have sub:Sub s.H (cD s.H ((s.N,some (.row q v (xs++ys)))::(D++L).map fun i=>(i,none))) s.N:=A8 fun h=>absurd h (by omega)
       refine ⟨⟨.ow s.N,(s.N,some (.row q v (xs++ys)))::(D++L).map fun i=>(i,none),1⟩,TX (k:=1) hs nA sub ?_ ?_,⟨sub,by simp only [TA.wf];omega,fun id l hl=>?_⟩,h⟩
       ·simp only [TA.av,fM,cD,aR,Nat.beq_refl,List.length_append]
        rw [e3]
        exact iu.refl _
       ·simp only [aY.dw,List.length_append]
        rw [e3]
        exact eV.refl _
       ·simp only [List.mem_cons,Prod.mk.injEq,Option.some.injEq,List.mem_map] at hl
        rcases hl with ⟨_,h⟩ | ⟨_,_,_,h⟩
        ·rw [h];simp only [aY.refs,iw]
        ·cases h
      ·cases h
     ·cases h
    ·cases h
   ·cases h
  ·cases h
 ·cases h
def leq (m n:Nat):Bool:=Nat.beq m n
def X2 (E:Env) (s:bQ) (x y:TA) (t:TypeId) (κ:cE→Option R):Option R:=
 match E.P.underlying t,x with
 | some (.slice et),.ow id=>match E.P.info? et,aR s.H id with
  | some ti,some (.row q v xs)=>if (!Nat.beq ti.size 0&&Nat.beq ti.size (fg q))&&!v.d then (match acv s.H q y with
   | some ys=>bE (leq ys.length xs.length) (κ ⟨.d ⟨.int .i64,(xs.length:Int)⟩,[(id,some (.row q v ys))],0⟩)
   | none=>none) else none
  | _,_=>none
 | _,_=>none
theorem aaO {E:Env} {o:Oper} {s:bQ} {κ:cE→Option R} {z:R} {x y:Operand} {t u:TypeId} (ho:o.op=.call ⟨.builtin .copy,#[x,y],#[t,u]⟩) (hs:s.ok) (h:X2 E s (s.val x) (s.val y) t κ=some z):xY E.P o s κ z:=by
 unfold X2 at h
 split at h
 ·rename_i et id ht hx
  split at h
  ·rename_i ti q v xs hi hb
   split at h
   ·rename_i hc
    simp only [Bool.and_eq_true,Bool.not_eq_true'] at hc
    have hvd:=hc.2
    have hc:=hc.1
    have e0:=Nat.ne_of_beq_eq_false hc.1
    have e1:=Nat.eq_of_beq_eq_true hc.2
    split at h
    ·rename_i ys iJ
     obtain ⟨qb,h⟩:=gH h
     have el:ys.length=xs.length:=Nat.eq_of_beq_eq_true qb
     have Ky:=Ua (P:=E.P) iJ (by omega)
     have h1:=@b9 s x _ hx
     simp only [TA.av,fM,hb] at h1
     rw [← e1] at h1 Ky
     rw [el] at Ky
     have nA:=adO (P:=E.P) (v:=v.b) (id:=id) (e:=cC q xs) ho ht hi e0 h1 (by rw [dz hb,yp _ hvd];simp only [e1]) Ky (fun i j _ _=>NA _ _ _)
     refine iL (k:=0) hs h nA (Zh hb el.symm) (by simp only [TA.av,cN];exact iu.refl _) (by simp only [TA.wf]) ?_ (fun l' e=>by cases e)
     rw [yp _ hvd]
     simp only [el,e1]
     exact eV.refl _
    ·cases h
   ·cases h
  ·cases h
 ·cases h
def acw (P:Program) (H:List (Nat×aY)) (x:TA) (t:TypeId) (κ:cE→Option R):Option R:=
 match P.underlying t with
 | some d=>match x with
  | .d ⟨.str,m⟩=>if TR d then κ ⟨.d ⟨.int .i64,((List.length (α:=UInt8) m:Nat):Int)⟩,[],0⟩ else none
  | .d ⟨.sl u,xs⟩=>if JD d then κ ⟨.d ⟨.int .i64,((List.length (α:=u.dn) xs:Nat):Int)⟩,[],0⟩ else none
  | .ff=>if JD d then κ ⟨.d ⟨.int .i64,(0:Int)⟩,[],0⟩ else none
  | .ow id=>match aR H id with
   | some (.row _ _ xs)=>if JD d then κ ⟨.d ⟨.int .i64,((xs.length:Nat):Int)⟩,[],0⟩ else none
   | some (.da _ _ xs _ _)=>if JD d then κ ⟨.d ⟨.int .i64,((xs.length:Nat):Int)⟩,[],0⟩ else none
   | _=>none
  | .bs _ n _=>if JD d then κ ⟨.d ⟨.int .i64,((n:Nat):Int)⟩,[],0⟩ else none
  | _=>none
 | none=>none
theorem acx {o:Oper} {s:bQ} {κ:cE→Option R} {z:R} {x:Operand} {t:TypeId} (ho:o.op=.call ⟨.builtin .len,#[x],#[t]⟩) (h:acw P s.H (s.val x) t κ=some z):xY P o s κ z:=by
 unfold acw at h
 split at h
 ·rename_i d ht
  split at h
  ·rename_i m hx
   split at h
   ·rename_i hd
    have h1:ec s.st x (.str m):=b9 hx
    exact oa h (XH ho h1 ht hd)
   ·cases h
  ·rename_i u xs hx
   split at h
   ·rename_i hd
    have h1:=@b9 s x _ hx
    exact oa h (PJ ho h1 rfl ht hd)
   ·cases h
  ·rename_i hx
   split at h
   ·rename_i hd
    have h1:=@b9 s x _ hx
    simp only [TA.av] at h1
    exact oa h (PJ (n:=0) ho h1 rfl ht hd)
   ·cases h
  ·rename_i id hx
   split at h
   ·rename_i u v xs hb
    split at h
    ·rename_i hd
     have h1:=@b9 s x _ hx
     simp only [TA.av,fM,hb] at h1
     exact oa h (PJ (n:=xs.length) ho h1 (by cases v<;>rfl) ht hd)
    ·cases h
   ·rename_i u v xs _ _ hb
    split at h
    ·rename_i hd
     have h1:=@b9 s x _ hx
     simp only [TA.av,fM,hb] at h1
     exact oa h (PJ (n:=xs.length) ho h1 (by cases v<;>rfl) ht hd)
    ·cases h
   ·cases h
  ·rename_i id n bB hx
   split at h
   ·rename_i hd
    have h1:=@b9 s x _ hx
    simp only [TA.av] at h1
    exact oa h (PJ (n:=n) ho h1 rfl ht hd)
   ·cases h
  ·cases h
 ·cases h
def aaP (s:bQ) (d:Int):Option Operand→Option Int
 | none=>some d
 | some x=>match s.val x with
  | .d ⟨.int _,i⟩=>some i
  | _=>none
theorem Ot {s:bQ} {d i:Int} {x:Option Operand} (h:aaP s d x=some i):Bnd s.st d x i:=by
 unfold aaP at h
 split at h
 ·cases h;exact .inl ⟨rfl,rfl⟩
 ·rename_i y
  split at h
  ·rename_i k j hy
   cases h
   exact .inr ⟨y,k,rfl,b9 hy⟩
  ·cases h
theorem acy {bB n m:Nat} {e f:Nat→Nat→AV} (hn:n=m) (h:∀ i j,i < n→e i j=f i j):iu (.fs bB n e) (.fs bB m f):=by
 subst hn
 intro w F μ K v hv
 cases hv with
 | fs _ _ _ b o cap uu hF hc' hu hv=>exact .fs _ _ _ b o cap uu hF hc' hu fun i j hi hj=>h i j hi▸hv i j hi hj
 | wv=>exact .wv _ _ _ _
theorem ad6 (u:Ty) (xs:List u.dn) (l h:Int) (e3:h≤xs.length):iu (.fs (fg u) (h.toNat-l.toNat) fun i j=>cC u xs (l.toNat+i) j) (cN ⟨.sl u,Rk xs l h⟩):=by
 refine acy ?_ fun i j hi=>?_
 ·show _=(Rk xs l h).length
  simp only [Rk,List.length_drop,List.length_take];omega
 ·show cC u xs (l.toNat+i) j=cC u (Rk xs l h) i j
  simp only [cC,Rk,List.getD,List.getElem?_drop,List.getElem?_take]
  rw [if_pos (by omega)]
def Ub (P:Program) (s:bQ) (t:TypeId) (x:TA) (lo hi:Option Operand) (κ:cE→Option R):Option R:=
 match x,P.underlying t with
 | .d ⟨.str,m⟩,some .string=>match aaP s 0 lo,aaP s (List.length (α:=UInt8) m:Nat) hi with
  | some l,some h=>bE (adV l h (List.length (α:=UInt8) m)) (κ ⟨.d ⟨.str,Rk (α:=UInt8) m l h⟩,[],0⟩)
  | _,_=>none
 | .d ⟨.sl u,xs⟩,some (.slice et)=>match P.info? et,aaP s 0 lo,aaP s (List.length (α:=u.dn) xs:Nat) hi with
  | some ti,some l,some h=>if Nat.beq ti.size (fg u) then bE (adV l h (List.length (α:=u.dn) xs)) (κ ⟨.d ⟨.sl u,Rk (α:=u.dn) xs l h⟩,[],0⟩) else none
  | _,_,_=>none
 | _,_=>none
theorem X3 {o:Oper} {s:bQ} {κ:cE→Option R} {z:R} {x:Operand} {t:TypeId} {lo hi:Option Operand} (ho:o.op=.slice t x lo hi none) (h:Ub P s t (s.val x) lo hi κ=some z):xY P o s κ z:=by
 unfold Ub at h
 split at h
 ·rename_i m hx ht
  split at h
  ·rename_i l h' hl hh
   obtain ⟨e,h⟩:=gH h
   obtain ⟨e1,e2,e3⟩:=Zd e
   have h1:ec s.st x (.str m):=b9 hx
   exact oa h (VO ho h1 ht (Ot hl) (Ot hh) e1 e2 e3)
  ·cases h
 ·rename_i u xs et hx ht
  split at h
  ·rename_i ti l h' c9 hl hh
   split at h
   ·rename_i he
    have he:=Nat.eq_of_beq_eq_true he
    obtain ⟨e,h⟩:=gH h
    obtain ⟨e1,e2,e3⟩:=Zd e
    have h1:ec s.st x (.fs (fg u) (List.length (α:=u.dn) xs) (cC u xs)):=@b9 s x _ hx
    have nA:=XI (P:=P) ho h1 ht c9 he (Ot hl) (Ot hh) e1 e2 e3
    refine kr h nA ?_ (by simp only [TA.wf])
    simp only [TA.av]
    exact ad6 u xs l h' e3
   ·cases h
  ·cases h
 ·cases h
def acz (s:bQ) (fn:Fn) (xs ys:List Operand) (κ:cE→Option R):Option R:=κ ⟨.fn fn (xs.map s.val) (ys.map s.val),[],0⟩
theorem Cx (s:bQ):∀ xs:List Operand,Rj s.st xs (dU s.H (xs.map s.val))
 | []=>by simp only [List.map_nil,dU];exact Rj.nil
 | x::r=>by simp only [List.map_cons,dU];exact Rj.cons (gj s x) (Cx s r)
theorem Zm {s:bQ} (hs:s.ok) (xs:List Operand):iw s.H s.N (xs.map s.val):=c8.2 fun a ha=>by
 obtain ⟨x,_,rfl⟩:=List.mem_map.1 ha
 exact gy hs x
theorem aaQ {o:Oper} {s:bQ} {κ:cE→Option R} {z:R} {fn:Fn} {xs ys:List Operand} (ho:o.op=.makeFunc fn ⟨xs⟩ ⟨ys⟩) (hs:s.ok) (h:acz s fn xs ys κ=some z):xY P o s κ z:=
 tr h (by simp only [TA.av];exact VH ho (Cx s xs) (Cx s ys)) (by simp only [TA.wf];exact ⟨Zm hs xs,Zm hs ys⟩)
def Uc (P:Program) (t:TypeId) (x:TA) (κ:cE→Option R):Option R:=
 match P.underlying t with
 | some d=>if XG d then none else κ ⟨.pe t x,[],0⟩
 | none=>none
theorem X4 {o:Oper} {s:bQ} {κ:cE→Option R} {z:R} {x:Operand} {t:TypeId} (ho:o.op=.makeInterface t x) (hs:s.ok) (h:Uc P t (s.val x) κ=some z):xY P o s κ z:=by
 unfold Uc at h
 split at h
 ·rename_i d hd
  split at h
  ·cases h
  ·rename_i hi
   exact tr h (by simp only [TA.av];exact Mx ho (gj s x) hd (by simpa using hi)) (by simp only [TA.wf];exact gy hs x)
 ·cases h
def ev0 (E:Env) (o:Oper) (s:bQ) (κ:cE→Option R):Option R:=
 match o.op with
 | .move x | .assign x=>κ ⟨s.val x,[],0⟩
 | .pick c x y=>XU (s.val c) (s.val x) (s.val y) κ
 | .extract x i=>MF (s.val x) i κ
 | .unOp op _ x=>agx op (s.val x) κ
 | .binOp op t x y _=>acq E.P op t (s.val x) (s.val y) κ
 | .convert t u x=>T3 E.P t u (s.val x) κ
 | .index t x y=>Ol E.P t (s.val x) (s.val y) κ
 | .fieldAddr t x k=>Gu E.P s.H t (s.val x) k κ
 | .nilCheck x=>JI s.H (s.val x) κ
 | .indexAddr t x y=>XV E.P s.H t (s.val x) (s.val y) κ
 | .load t x=>T5 E.P s.H t (s.val x) κ
 | .field t x k=>T6 E.P t (s.val x) k κ
 | .box _ x=>Zi s (s.val x) κ
 | .alloc t=>Om E.P s t κ
 | .store t x y=>On E.P s.H t (s.val x) (s.val y) κ
 | .makeSlice t x y=>T8 E s t (s.val x) (s.val y) κ
 | .build t ⟨ps⟩=>Oq E.P s t ps κ
 | .buildSlice t n ⟨ps⟩=>G9 E s t n ps κ
 | .makeFunc fn ⟨xs⟩ ⟨ys⟩=>acz s fn xs ys κ
 | .makeInterface t x=>Uc E.P t (s.val x) κ
 | .slice t x lo hi none=>Ub E.P s t (s.val x) lo hi κ
 | .call ⟨.builtin .len,⟨[x]⟩,⟨[t]⟩⟩=>acw E.P s.H (s.val x) t κ
 | .call ⟨.builtin .append,⟨[x,y]⟩,⟨[t,u]⟩⟩=>P7 E s (s.val x) (s.val y) t u κ
 | .call ⟨.builtin .copy,⟨[x,y]⟩,⟨[t,_]⟩⟩=>X2 E s (s.val x) (s.val y) t κ
 | _=>none
theorem agA {E:Env} {o:Oper} {s:bQ} {κ:cE→Option R} {z:R} (hs:s.ok) (h:ev0 E o s κ=some z):xY E.P o s κ z:=by
 unfold ev0 at h
 split at h
 ·rename_i x ho;exact tr h (Y1 (.inl ho) (gj s x)) (gy hs x)
 ·rename_i x ho;exact tr h (Y1 (.inr ho) (gj s x)) (gy hs x)
 ·rename_i ho;exact aaL ho hs h
 ·rename_i ho;exact T2 ho hs h
 ·rename_i ho;exact ad1 ho h
 ·rename_i ho;exact acr ho h
 ·rename_i ho;exact Sn ho h
 ·rename_i ho;exact PZ ho h
 ·rename_i ho;exact P2 ho hs h
 ·rename_i ho;exact Rp ho hs h
 ·rename_i ho;exact aaN ho hs h
 ·rename_i ho;exact So ho hs h
 ·rename_i ho;exact XX ho hs h
 ·rename_i ho;exact VZ ho hs h
 ·rename_i ho;exact P4 ho hs h
 ·rename_i ho;exact P5 ho hs h
 ·rename_i ho;exact Sp ho hs h
 ·rename_i ho;exact P6 ho hs h
 ·rename_i ho;exact Ld ho hs h
 ·rename_i ho;exact aaQ ho hs h
 ·rename_i ho;exact X4 ho hs h
 ·rename_i ho;exact X3 ho h
 ·rename_i ho;exact acx ho h
 ·rename_i ho;exact V4 ho hs h
 ·rename_i ho;exact aaO ho hs h
 ·cases h
end Go.Proofs.YtljfmaaadnoggaaGreatDoor.cX
