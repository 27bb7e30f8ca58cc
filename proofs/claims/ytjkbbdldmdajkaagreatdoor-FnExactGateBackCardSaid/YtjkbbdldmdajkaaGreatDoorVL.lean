/- The evaluator of operations: rows that are made, literals, append, copy, parts; all operations but calls. No condition. -/
import Derived.Test.YtjkbbdldmdajkaaGreatDoorVK
set_option linter.unusedSimpArgs false
set_option linter.unusedVariables false
namespace Go.Proofs.YtjkbbdldmdajkaaGreatDoor.c_
open Go Go.RowKit
variable {w w' xk:World} {F F' Bs O O' v8:Nat→Prop} {μ bC lG:Nat→Nat} {K K' EF:Nat→Prop} {ft bZ:Nat→Nat→Prop} {P:Program} {R:Type}
theorem KE {t:Ty} {e:t.dn} {cs:List TA} {ds:List cN} {H:List (Nat×aY)} (hd:tf (Gr t) cs=some ds) (he:Mg t ds=some e) (j:Nat) (hj:j < cs.length):il ((cs.getD j .top).av H) ((sW t e).getD j .top):=by
 obtain ⟨d1,d2,d3,d4⟩:=oB hd;rw [← fJ,ff he];intro w F μ K v hv;exact d4 H j hj hv
def RN (E:Env) (s:bP) (t:TypeId) (x y:TA) (κ:cx→Option R):Option R:=
 match x,y,E.P.underlying t with
 | .d ⟨.int .i64,l⟩,.d ⟨.int .i64,c⟩,some (.slice et)=>match E.P.info? et,Dd E.P et,L5 E.tc et with
  | some ti,some zs,some u=>if Nat.beq zs.length ti.size&&Nat.beq ti.size (fy u) then (match tf (Gr u) zs with
   | some ds=>match Mg u ds with
    | some e=>aZ (GV l c ti.bytes) (κ ⟨.ow s.N,[(s.N,some (.row u .ms (List.replicate (Int.toNat l) e)))],1⟩)
    | none=>none
   | none=>none) else none
  | _,_,_=>none
 | _,_,_=>none
theorem CD {ts:List Ty} {l:List TA} {r:List cN} (h:tf ts l=some r) (H:List (Nat×aY)):(∀ a,a∈dD H l→Qb a)∧∀ a,a∈dD H l→One a:=by
 refine ⟨fun b hb=>?_,fun b hb=>?_⟩
 ·rw [c7] at hb;obtain ⟨a,ha,rfl⟩:=List.mem_map.1 hb;cases TH:EW a with
  | true=>exact y7 TH
  | false=>exact absurd TH (vl h a ha)
 ·rw [c7] at hb;obtain ⟨a,ha,rfl⟩:=List.mem_map.1 hb;obtain ⟨k,hk,rfl⟩:=List.getElem_of_mem ha;obtain ⟨d1,d2,d3,d4⟩:=oB h;intro w F μ K v' I4;have hv2:VR w F μ K ((l.getD k .top).av H) v':=by rw [getD_eq _ _ hk];exact I4
  have hk2:k < r.length:=by omega
  have h5:(r.map cR).getD k .top=cR r[k]:=by simp [List.getD,hk2]
  exact Jd (d3 _ (List.getElem_mem hk2)) (h5▸d4 H k hk hv2)
theorem xO (H:List (Nat×aY)) {t:Ty} {v:RV} {xs:List t.dn} (h:v.d=false):(aY.row t v xs).dC H=.row v.b (fy t) xs.length (cC t xs):=by
 simp only [aY.dC]
 congr 1
 funext i j;simp only [bV,h]
theorem Qj {E:Env} {o:Oper} {s:bP} {κ:cx→Option R} {z:R} {x y:Operand} {t:TypeId} (ho:o.op=.makeSlice t x y) (hs:s.ok) (h:RN E s t (s.val x) (s.val y) κ=some z):wg E.P o s κ z:=by
 unfold RN at h;split at h
 ·rename_i l c et hx hy ht;have h1:ee s.st x (.int .i64 l):=bX hx;have h2:ee s.st y (.int .i64 c):=bX hy;split at h
  ·rename_i ti zs u hi hz _;split at h
   ·rename_i hc;simp only [Bool.and_eq_true] at hc;have e1:=Nat.eq_of_beq_eq_true hc.1;have e2:=Nat.eq_of_beq_eq_true hc.2;split at h
    ·rename_i ds tt;split at h
     ·rename_i e he;obtain ⟨q,h⟩:=gg h;obtain ⟨q1,q2,q3,q4⟩:=Vr q;obtain ⟨z1,z2⟩:=qf hz s.H s.N;obtain ⟨c1,c2⟩:=CD tt s.H;have m_:=RA false (fun h=>by cases h) (P:=E.P) (N:=s.N) (e:=cC u (List.replicate (Int.toNat l) e)) ho h1 h2 ht hi z1 (by rw [bB];exact e1) c1 c2 q1 q2 q3 q4 (fun i j di mR=>by
       rw [dx _ _ _ (by omega)];simp only [cC];have:(List.replicate (Int.toNat l) e).getD i u.df=e:=by simp [List.getD,di]
       rw [this];intro w1 F1 KC K1 v1 JI;exact KE tt he j (by omega) JI)
      refine hJ (k:=1) hs h m_ nL ?_ (by simp only [TA.wf];omega) ?_ (fun l' e=>by cases e)
      ·simp only [TA.av,fH,qe,if_true,List.length_replicate];rw [e2];exact il.refl _
      ·rw [xO _ rfl];simp only [List.length_replicate];rw [e2];exact eQ.refl _
     ·cases h
    ·cases h
   ·cases h
  ·cases h
 ·cases h
def RO (E:Env) (s:bP) (t:TypeId) (x y:TA) (κ:cx→Option R):Option R:=
 match x,y,E.P.underlying t with
 | .d ⟨.int .i64,l⟩,.d ⟨.int .i64,c⟩,some (.slice et)=>match E.P.info? et,Dd E.P et,L5 E.tc et with
  | some ti,some zs,some u=>if Nat.beq zs.length ti.size&&Nat.beq ti.size (fy u) then (match tf (Gr u) zs with
   | some ds=>match Mg u ds with
    | some e=>aZ (GV l c ti.bytes) (aZ (bK 0 l) (κ ⟨.ow s.N,[(s.N,some (.row u .vs (List.replicate (Int.toNat l) e)))],1⟩))
    | none=>none
   | none=>none) else none
  | _,_,_=>none
 | _,_,_=>none
theorem Vw {E:Env} {o:Oper} {s:bP} {κ:cx→Option R} {z:R} {x y:Operand} {t:TypeId} (ho:o.op=.makeSlice t x y) (hs:s.ok) (h:RO E s t (s.val x) (s.val y) κ=some z):wg E.P o s κ z:=by
 unfold RO at h;split at h
 ·rename_i l c et hx hy ht;have h1:ee s.st x (.int .i64 l):=bX hx;have h2:ee s.st y (.int .i64 c):=bX hy;split at h
  ·rename_i ti zs u hi hz _;split at h
   ·rename_i hc;simp only [Bool.and_eq_true] at hc;have e1:=Nat.eq_of_beq_eq_true hc.1;have e2:=Nat.eq_of_beq_eq_true hc.2;split at h
    ·rename_i ds tt;split at h
     ·rename_i e he;obtain ⟨q,h⟩:=gg h;obtain ⟨q0,h⟩:=gg h;have dQ:@LT.lt Int _ 0 l:=by simpa only [bK,decide_eq_true_eq] using q0
      have JJ:∀ {m:Nat},m=Int.toNat l→m≠0:=fun {m} e h0=>by
       have h2:Int.toNat l=0:=e▸h0;have h3:=Int.toNat_eq_zero.1 h2;exact absurd dQ (Int.not_lt.2 h3)
      obtain ⟨q1,q2,q3,q4⟩:=Vr q;obtain ⟨z1,z2⟩:=qf hz s.H s.N;obtain ⟨c1,c2⟩:=CD tt s.H;have m_:=RA false (fun h=>by cases h) (P:=E.P) (N:=s.N) (e:=cC u (List.replicate (Int.toNat l) e)) ho h1 h2 ht hi z1 (by rw [bB];exact e1) c1 c2 q1 q2 q3 q4 (fun i j di mR=>by
       rw [dx _ _ _ (by omega)];simp only [cC];have:(List.replicate (Int.toNat l) e).getD i u.df=e:=by simp [List.getD,di]
       rw [this];intro w1 F1 KC K1 v1 JI;exact KE tt he j (by omega) JI)
      refine hJ (k:=1) hs h m_ nL ?_ (by simp only [TA.wf];omega) ?_ (fun l' e=>by cases e)
      ·simp only [TA.av,fH,qe,if_true,List.length_replicate];rw [e2];intro w1 F1 KC K1 v1 JI;have JI:VR w1 F1 KC K1 (.ms s.N 0 l.toNat (fy u)) v1:=JI;show VR w1 F1 KC K1 (.vs s.N l.toNat (fy u)) v1;cases JI with
       | ms _ _ _ _ cap sz t' bY hc2 hs2 fV=>
        rw [Nat.zero_mul,Nat.zero_add] at *;exact .vs _ _ _ cap sz t' (JJ rfl) bY hc2 hs2 fV
      ·rw [xO _ rfl];simp only [List.length_replicate];rw [e2];exact ⟨fun _=>rfl,fun hB=>hB⟩
     ·cases h
    ·cases h
   ·cases h
  ·cases h
 ·cases h
def HT (s:bP):List (Nat×Operand)→Option (List (Nat×List TA))
 | []=>some []
 | (i,x)::r=>match CB s.H (s.val x),HT s r with
  | some l,some q=>some ((i,l)::q)
  | _,_=>none
theorem Bv {s:bP} (hs:s.ok):∀ {ps:List (Nat×Operand)} {q:List (Nat×List TA)},HT s ps=some q→EP s.st ps (q.map fun p=>(p.1,dD s.H p.2))∧∀ p,p∈q→im s.H s.N p.2
 | [],q,h=>by cases h;exact ⟨.nil,fun p hp=>by cases hp⟩
 | (i,x)::r,q,h=>by
  simp only [HT] at h;split at h
  ·rename_i l q' hl hq;cases h;obtain ⟨h1,h2⟩:=Bv hs hq;obtain ⟨k1,k2⟩:=y6 hl (gf hs x);refine ⟨.cons (gE s x) k1 h1,fun p hp=>?_⟩;rcases List.mem_cons.1 hp with e | e
   ·rw [e];exact k2
   ·exact h2 p e
  ·cases h
theorem Bw {α β:Type} (f:α→β) {place:Nat→Option (Nat×Nat)}:∀ {q:List (Nat×List α)} {cs r:List α},oA place cs q=some r→oA place (cs.map f) (q.map fun p=>(p.1,p.2.map f))=some (r.map f)
 | [],cs,r,h=>by cases h;rfl
 | (i,l)::q,cs,r,h=>by
  simp only [oA] at h;simp only [List.map_cons,oA];split at h
  ·cases h
  ·rename_i off size hp;split at h
   ·rename_i hb;simp only [List.length_map,hb,if_true];rw [← TE];exact Bw f h
   ·cases h
theorem Ft {α:Type} {place:Nat→Option (Nat×Nat)}:∀ {q:List (Nat×List α)} {cs r:List α},oA place cs q=some r→∀ a,a∈r→a∈cs∨∃ p,p∈q∧a∈p.2
 | [],cs,r,h,a,ha=>by cases h;exact .inl ha
 | (i,l)::q,cs,r,h,a,ha=>by
  simp only [oA] at h;split at h
  ·cases h
  ·split at h
   ·rcases Ft h a ha with k | ⟨p,k1,k2⟩
    ·rcases TF k with k | k
     ·exact .inl k
     ·exact .inr ⟨(i,l),by simp,k⟩
    ·exact .inr ⟨p,by simp [k1],k2⟩
   ·cases h
theorem RP {α:Type} {place:Nat→Option (Nat×Nat)}:∀ {q:List (Nat×List α)} {cs r:List α},oA place cs q=some r→r.length=cs.length
 | [],cs,r,h=>by cases h;rfl
 | (i,l)::q,cs,r,h=>by
  simp only [oA] at h;split at h
  ·cases h
  ·split at h
   ·rw [RP h,v9]
   ·cases h
def Mk (P:Program) (s:bP) (t:TypeId) (ps:List (Nat×Operand)) (κ:cx→Option R):Option R:=
 match P.underlying t with
 | some (.struct fs)=>match Dd P t,I9 P fs.toList,HT s ps with
  | some zs,some pl,some q=>match oA (fun i=>pl[i]?) zs q with
   | some r=>κ ⟨.agg r,[],0⟩
   | none=>none
  | _,_,_=>none
 | _=>none
theorem NY {o:Oper} {s:bP} {κ:cx→Option R} {z:R} {t:TypeId} {ps:List (Nat×Operand)} (ho:o.op=.build t ⟨ps⟩) (hs:s.ok) (h:Mk P s t ps κ=some z):wg P o s κ z:=by
 unfold Mk at h;split at h
 ·rename_i fs ht;split at h
  ·rename_i zs pl q hz hp hq;split at h
   ·rename_i r hr;obtain ⟨z1,z2⟩:=qf hz s.H s.N;obtain ⟨p1,p2⟩:=Bv hs hq;have hf:=Bw (TA.av s.H) hr;have e:(q.map fun p=>(p.1,p.2.map (TA.av s.H)))=q.map fun p=>(p.1,dD s.H p.2):=List.map_congr_left fun p _=>by rw [c7]
    rw [e] at hf;have m_:=aao (P:=P) ho ht z1 hp p1 (r:=dD s.H r) (by rw [c7,c7];exact hf);refine tg h (by simpa only [TA.av] using m_) ?_;simp only [TA.wf];refine db.2 fun a ha=>?_;rcases Ft hr a ha with k | ⟨p,k1,k2⟩
    ·exact db.1 z2 a k
    ·exact db.1 (p2 p k1) a k2
   ·cases h
  ·cases h
 ·cases h
def ab9 (t:Ty):Nat→List TA→Option (List t.dn)
 | 0,_=>some []
 | n+1,cs=>match tf (Gr t) (cs.take (fy t)) with
  | some ds=>match Mg t ds,ab9 t n (cs.drop (fy t)) with
   | some e,some r=>some (e::r)
   | _,_=>none
  | none=>none
theorem WI {t:Ty}:∀ {n:Nat} {cs:List TA} {xs:List t.dn},ab9 t n cs=some xs→n*fy t≤cs.length→xs.length=n∧(∀ a,a∈cs.take (n*fy t)→EW a≠false)∧(∀ H a,a∈dD H (cs.take (n*fy t))→One a)∧
  ∀ H i j,i < n→j < fy t→il ((cs.getD (i*fy t+j) .top).av H) (cC t xs i j)
 | 0,cs,xs,h,_=>by
  cases h;exact ⟨rfl,by simp,by simp [dD],fun H i j hi=>by omega⟩
 | n+1,cs,xs,h,hl=>by
  simp only [ab9] at h;split at h
  ·rename_i ds tt;split at h
   ·rename_i e r he hr;cases h;rw [Nat.add_mul,Nat.one_mul] at hl ⊢;obtain ⟨h1,h2,h3,h4⟩:=WI hr (by simp;omega);have hsp:cs.take (n*fy t+fy t)=cs.take (fy t)++(cs.drop (fy t)).take (n*fy t):=by
     rw [Nat.add_comm,List.take_add]
    refine ⟨by simp [h1],fun a ha=>?_,fun H a ha=>?_,fun H i j hi hj=>?_⟩
    ·rw [hsp] at ha;rcases List.mem_append.1 ha with k | k
     ·exact vl tt a k
     ·exact h2 a k
    ·rw [hsp,c7,List.map_append,← c7,← c7] at ha;rcases List.mem_append.1 ha with k | k
     ·exact (CD tt H).2 a k
     ·exact h3 H a k
    ·cases i with
     | zero=>
      simp only [Nat.zero_mul,Nat.zero_add,cC];have TI:j < (cs.take (fy t)).length:=by simp;omega
      have e2:(cs.take (fy t)).getD j .top=cs.getD j .top:=by simp [List.getD,List.getElem?_take,hj]
      rw [← e2];intro w1 F1 KC K1 v1 JI;exact KE tt he j TI JI
     | succ i=>
      have e2:(cs.drop (fy t)).getD (i*fy t+j) .top=cs.getD ((i+1)*fy t+j) .top:=by
       simp only [List.getD,List.getElem?_drop]
       congr 2
       rw [Nat.add_mul,Nat.one_mul];omega
      rw [← e2];intro w1 F1 KC K1 v1 JI;exact h4 H i j (by omega) hj JI
   ·cases h
  ·cases h
def Fu (E:Env) (s:bP) (t:TypeId) (n:Nat) (ps:List (Nat×Operand)) (κ:cx→Option R):Option R:=
 match E.P.underlying t with
 | some (.slice et)=>match E.P.info? et,Dd E.P et,HT s ps with
  | some ti,some zs,some q=>match oA (fun i=>some (i*ti.size,ti.size)) ((List.range n).flatMap fun _=>zs) q with
   | some r=>if ((Nat.beq zs.length ti.size&&!Nat.beq ti.size 0)&&(n*ti.size).ble 16777216)&&Nat.beq r.length (n*ti.size) then
     (match L5 E.tc et with
     | some u=>if Nat.beq (fy u) ti.size then (match ab9 u n r with
      | some xs=>κ ⟨.ow s.N,[(s.N,some (.row u .ms xs))],1⟩
      | none=>none) else none
     | none=>κ ⟨.bs s.N n ti.size,[(s.N,some (.box r))],1⟩) else none
   | none=>none
  | _,_,_=>none
 | _=>none
theorem Ji {E:Env} {o:Oper} {s:bP} {κ:cx→Option R} {z:R} {t:TypeId} {n:Nat} {ps:List (Nat×Operand)} (ho:o.op=.buildSlice t n ⟨ps⟩) (hs:s.ok) (h:Fu E s t n ps κ=some z):wg E.P o s κ z:=by
 unfold Fu at h;split at h
 ·rename_i et ht;split at h
  ·rename_i ti zs q hi hz hq;split at h
   ·rename_i r hr;split at h
    ·rename_i hb;simp only [Bool.and_eq_true,Bool.not_eq_true'] at hb;have e1:=Nat.eq_of_beq_eq_true hb.1.1.1;have e2:=Nat.ne_of_beq_eq_false hb.1.1.2;have e3:=Nat.le_of_ble_eq_true hb.1.2;have e4:=Nat.eq_of_beq_eq_true hb.2;obtain ⟨z1,z2⟩:=qf hz s.H s.N;obtain ⟨p1,p2⟩:=Bv hs hq;have hf:=Bw (TA.av s.H) hr;have e:(q.map fun p=>(p.1,p.2.map (TA.av s.H)))=q.map fun p=>(p.1,dD s.H p.2):=List.map_congr_left fun p _=>by rw [c7]
     have e5:((List.range n).flatMap fun _=>zs).map (TA.av s.H)=(List.range n).flatMap fun _=>dD s.H zs:=by rw [List.map_flatMap,c7]
     rw [e,e5,← c7] at hf;have hwr:im s.H s.N r:=db.2 fun a ha=>by
      rcases Ft hr a ha with k | ⟨p,k1,k2⟩
      ·obtain ⟨_,_,k⟩:=List.mem_flatMap.1 k;exact db.1 z2 a k
      ·exact db.1 (p2 p k1) a k2
     split at h
     ·rename_i u _;split at h
      ·rename_i e6;have e6:=Nat.eq_of_beq_eq_true e6;split at h
       ·rename_i xs hxs;obtain ⟨b1,b2,b3,b4⟩:=WI hxs (by rw [e6];omega);have etk:r.take (n*fy u)=r:=List.take_of_length_le (by rw [e6];omega);rw [etk] at b2 b3;have m_:=Pq (P:=E.P) (N:=s.N) (e:=cC u xs) ho ht hi z1 (by rw [bB];exact e1) e2 e3 p1 hf
         (fun b cl=>by
          rw [c7] at cl;obtain ⟨a,ha,rfl⟩:=List.mem_map.1 cl;cases TH:EW a with
          | true=>exact y7 TH
          | false=>exact absurd TH (b2 a ha)) (b3 s.H)
         (fun i j di mR=>by
          have h4:(i+1)*ti.size≤n*ti.size:=Nat.mul_le_mul_right _ di;rw [Nat.add_mul,Nat.one_mul] at h4;rw [dx _ _ _ (by omega)];rw [← e6];intro w1 F1 KC K1 v1 JI;exact b4 s.H i j di (by omega) JI)
        refine hJ (k:=1) hs h m_ nL ?_ (by simp only [TA.wf];omega) ?_ (fun l' e=>by cases e)
        ·simp only [TA.av,fH,qe,if_true,b1,e6];exact il.refl _
        ·rw [xO _ rfl];simp only [b1,e6];exact eQ.refl _
       ·cases h
      ·cases h
     ·have m_:=I_ (P:=E.P) (N:=s.N) ho ht hi z1 (by rw [bB];exact e1) e2 e3 p1 hf;exact hJ (k:=1) hs h m_ nL (by simp only [TA.av];exact il.refl _) (by simp only [TA.wf]) (Jh (N:=s.N) nL hwr) (fun l' e=>by cases e;exact hwr)
    ·cases h
   ·cases h
  ·cases h
 ·cases h
theorem Vx {t:Ty} (xs ys:List t.dn) (i j:Nat):cC t (xs++ys) i j=if i < xs.length then cC t xs i j else cC t ys (i-xs.length) j:=by
 simp only [cC,List.getD];split
 ·rename_i h;rw [List.getElem?_append_left h]
 ·rename_i h;rw [List.getElem?_append_right (Nat.le_of_not_lt h)]
def aaz (H:List (Nat×aY)) (t:Ty):TA→Option (List t.dn)
 | .d ⟨.sl u,ys⟩=>if h:u=t then some (h▸(ys:List u.dn)) else none
 | .fB=>some []
 | .ow id=>match aT H id with
  | some (.row u v ys)=>match v.d with
   | true=>none
   | false=>if h:u=t then some (h▸ys) else none
  | _=>none
 | _=>none
theorem RQ {s:bP} {t:Ty} {y:Operand} {ys:List t.dn} (h:aaz s.H t (s.val y)=some ys) (h0:fy t≠0):Src P s.st y (fy t) ys.length (cC t ys) []:=by
 unfold aaz at h;split at h
 ·rename_i u zs hy;split at h
  ·rename_i e;subst e;cases h;exact aed h0 (@bX s y _ hy)
  ·cases h
 ·rename_i hy;cases h;have h1:=@bX s y _ hy;simp only [TA.av] at h1;exact aap h0 h1 _
 ·rename_i id hy;split at h
  ·rename_i u v zs hb;split at h
   ·cases h
   ·rename_i hv;split at h
    ·rename_i e;subst e;cases h;have h1:=@bX s y _ hy;simp only [TA.av,fH,hb] at h1;exact abU h0 h1 (by rw [dF hb,xO _ hv]) fun i j _ _=>Lv _ _ _
    ·cases h
  ·cases h
 ·cases h
def WJ (H:List (Nat×aY)):TA→Bool
 | .ow id=>match aT H id with
  | some (.row _ v _)=>v.d
  | _=>false
 | _=>false
def aek (H:List (Nat×aY)) (t:Ty) (a:TA):Option (List t.dn×List Nat):=
 match WJ H a with
 | true=>match a with
  | .ow id=>match aT H id with
   | some (.row u _ ys)=>if h:u=t then some (h▸ys,[id]) else none
   | _=>none
  | _=>none
 | false=>match aaz H t a with
  | some ys=>some (ys,[])
  | none=>none
theorem ab_ {s:bP} {t:Ty} {y:Operand} {ys:List t.dn} {L:List Nat} (h:aek s.H t (s.val y)=some (ys,L)) (h0:fy t≠0) {v:RV} (hv:v.d=WJ s.H (s.val y)):Src P s.st y (fy t) ys.length (bV v t ys) L:=by
 unfold aek at h;split at h
 ·rename_i hd;split at h
  ·rename_i id hy;split at h
   ·rename_i u v' zs hb;split at h
    ·rename_i e;subst e;cases h;have h1:=@bX s y _ hy;simp only [TA.av,fH,hb] at h1;have I4:v'.d=true:=by rw [hy] at hd;simpa only [WJ,hb] using hd
     have e:bV v u zs=bV v' u zs:=by funext i j;simp only [bV,hv,hd,I4]
     rw [e];exact Ws h0 h1 (dF hb)
    ·cases h
   ·cases h
  ·cases h
 ·rename_i hd;split at h
  ·rename_i zs hz;cases h;have e:bV v t ys=cC t ys:=by funext i j;simp only [bV,hv,hd]
   rw [e];exact RQ hz h0
  ·cases h
def ael (H:List (Nat×aY)) (d:Bool) (t:Ty):TA→Option (RV×List t.dn×List Nat)
 | .fB=>match d with
  | true=>some (.dv,[],[])
  | false=>some (.vs,[],[])
 | .ow id=>match aT H id with
  | some (.row u v xs)=>match v.d,d with
   | true,true=>if h:u=t then some (v,h▸xs,[id]) else none
   | false,false=>if h:u=t then some (v,h▸xs,[id]) else none
   | _,_=>none
  | _=>none
 | _=>none
theorem aca {s:bP} {d:Bool} {t:Ty} {x:Operand} {v:RV} {xs:List t.dn} {D:List Nat} (h:ael s.H d t (s.val x)=some (v,xs,D)):Dst s.st x (fy t) v.b xs.length (bV v t xs) D∧v.d=d:=by
 unfold ael at h;split at h
 ·rename_i hx;have h1:=@bX s x _ hx;simp only [TA.av] at h1;cases d<;>cases h<;>exact ⟨.fB _ h1,rfl⟩
 ·rename_i id hx;split at h
  ·rename_i u v' zs hb;have h1:=@bX s x _ hx;simp only [TA.av,fH,hb] at h1;split at h
   ·rename_i hv;split at h
    ·rename_i e;subst e;cases h;exact ⟨.own _ _ _ _ h1 (dF hb),hv⟩
    ·cases h
   ·rename_i hv;split at h
    ·rename_i e;subst e;cases h;exact ⟨.own _ _ _ _ h1 (dF hb),hv⟩
    ·cases h
   ·cases h
  ·cases h
 ·cases h
theorem Vy {v:RV} {t:Ty} (xs ys:List t.dn) (i j:Nat):bV v t (xs++ys) i j=if i < xs.length then bV v t xs i j else bV v t ys (i-xs.length) j:=by
 simp only [bV,Vx];split<;>split<;>rfl
def NZ (E:Env) (s:bP) (x y:TA) (t u:TypeId) (κ:cx→Option R):Option R:=
 match E.P.underlying t,E.P.underlying u with
 | some (.slice et),some (.slice _)=>match E.P.info? et,L5 E.tc et with
  | some ti,some q=>match ti.zero with
   | some z=>if ((!Nat.beq ti.size 0&&Nat.beq z.cells.size ti.size)&&ti.bytes.ble 4294967296)&&Nat.beq ti.size (fy q) then (match ael s.H (WJ s.H y) q x,aek s.H q y with
    | some (v,xs,D),some (ys,L)=>if D.all fun i=>!(L.any fun j=>Nat.beq i j) then aZ (mw (xs.length+ys.length) ti.bytes) (κ ⟨.ow s.N,(s.N,some (.row q v (xs++ys)))::(D++L).map fun i=>(i,none),1⟩) else none
    | _,_=>none) else none
   | none=>none
  | _,_=>none
 | _,_=>none
theorem TJ {E:Env} {o:Oper} {s:bP} {κ:cx→Option R} {z:R} {x y:Operand} {t u:TypeId} (ho:o.op=.call ⟨.builtin .append,#[x,y],#[t,u]⟩) (hs:s.ok) (h:NZ E s (s.val x) (s.val y) t u κ=some z):wg E.P o s κ z:=by
 unfold NZ at h;split at h
 ·rename_i et eu ht hu;split at h
  ·rename_i ti q hi _;split at h
   ·rename_i z' hz;split at h
    ·rename_i hc;simp only [Bool.and_eq_true,Bool.not_eq_true'] at hc;have e0:=Nat.ne_of_beq_eq_false hc.1.1.1;have e1:=Nat.eq_of_beq_eq_true hc.1.1.2;have e2:=Nat.le_of_ble_eq_true hc.1.2;have e3:=Nat.eq_of_beq_eq_true hc.2;split at h
     ·rename_i v xs D ys L hd gh;split at h
      ·rename_i agY;obtain ⟨qb,h⟩:=gg h;obtain ⟨b1,b2⟩:=ab2 qb;obtain ⟨NO,hdv⟩:=aca hd;have IC:=ab_ (P:=E.P) gh (by omega) hdv;rw [← e3] at NO IC;have m_:=X9 (P:=E.P) (N:=s.N) (e':=bV v q (xs++ys)) ho ht hu hi hz e0 e1 NO IC (fun id h1 h2=>by
        have:=List.all_eq_true.1 agY id h1;simp only [Bool.not_eq_true',List.any_eq_false] at this;exact this id h2 (by simp)) b1 b2 e2 (fun i j _ _=>Vy xs ys i j)
       have sub:Sub s.H (cD s.H ((s.N,some (.row q v (xs++ys)))::(D++L).map fun i=>(i,none))) s.N:=xG fun h=>absurd h (by omega);refine ⟨⟨.ow s.N,(s.N,some (.row q v (xs++ys)))::(D++L).map fun i=>(i,none),1⟩,RD (k:=1) hs m_ sub ?_ ?_,⟨sub,by simp only [TA.wf];omega,fun id l hl=>?_⟩,h⟩
       ·simp only [TA.av,fH,cD,aT,Nat.beq_refl,List.length_append];rw [e3];exact il.refl _
       ·simp only [aY.dC,List.length_append];rw [e3];exact eQ.refl _
       ·simp only [List.mem_cons,Prod.mk.injEq,Option.some.injEq,List.mem_map] at hl;rcases hl with ⟨_,h⟩ | ⟨_,_,_,h⟩
        ·rw [h];simp only [aY.refs,im]
        ·cases h
      ·cases h
     ·cases h
    ·cases h
   ·cases h
  ·cases h
 ·cases h
def leq (m n:Nat):Bool:=Nat.beq m n
def Vz (E:Env) (s:bP) (x y:TA) (t:TypeId) (κ:cx→Option R):Option R:=
 match E.P.underlying t,x with
 | some (.slice et),.ow id=>match E.P.info? et,aT s.H id with
  | some ti,some (.row q v xs)=>if (!Nat.beq ti.size 0&&Nat.beq ti.size (fy q))&&!v.d then (match aaz s.H q y with
   | some ys=>aZ (leq ys.length xs.length) (κ ⟨.d ⟨.int .i64,(xs.length:Int)⟩,[(id,some (.row q v ys))],0⟩)
   | none=>none) else none
  | _,_=>none
 | _,_=>none
theorem Yl {E:Env} {o:Oper} {s:bP} {κ:cx→Option R} {z:R} {x y:Operand} {t u:TypeId} (ho:o.op=.call ⟨.builtin .copy,#[x,y],#[t,u]⟩) (hs:s.ok) (h:Vz E s (s.val x) (s.val y) t κ=some z):wg E.P o s κ z:=by
 unfold Vz at h;split at h
 ·rename_i et id ht hx;split at h
  ·rename_i ti q v xs hi hb;split at h
   ·rename_i hc;simp only [Bool.and_eq_true,Bool.not_eq_true'] at hc;have hvd:=hc.2;have hc:=hc.1;have e0:=Nat.ne_of_beq_eq_false hc.1;have e1:=Nat.eq_of_beq_eq_true hc.2;split at h
    ·rename_i ys gh;obtain ⟨qb,h⟩:=gg h;have el:ys.length=xs.length:=Nat.eq_of_beq_eq_true qb;have IC:=RQ (P:=E.P) gh (by omega);have h1:=@bX s x _ hx;simp only [TA.av,fH,hb] at h1;rw [← e1] at h1 IC;rw [el] at IC;have m_:=abV (P:=E.P) (v:=v.b) (id:=id) (e:=cC q xs) ho ht hi e0 h1 (by rw [dF hb,xO _ hvd];simp only [e1]) IC (fun i j _ _=>Lv _ _ _);refine hJ (k:=0) hs h m_ (WE hb el.symm) (by simp only [TA.av,cR];exact il.refl _) (by simp only [TA.wf]) ?_ (fun l' e=>by cases e);rw [xO _ hvd];simp only [el,e1];exact eQ.refl _
    ·cases h
   ·cases h
  ·cases h
 ·cases h
def aaA (P:Program) (H:List (Nat×aY)) (x:TA) (t:TypeId) (κ:cx→Option R):Option R:=
 match P.underlying t with
 | some d=>match x with
  | .d ⟨.str,m⟩=>if Rv d then κ ⟨.d ⟨.int .i64,((List.length (α:=UInt8) m:Nat):Int)⟩,[],0⟩ else none
  | .d ⟨.sl u,xs⟩=>if HM d then κ ⟨.d ⟨.int .i64,((List.length (α:=u.dn) xs:Nat):Int)⟩,[],0⟩ else none
  | .fB=>if HM d then κ ⟨.d ⟨.int .i64,(0:Int)⟩,[],0⟩ else none
  | .ow id=>match aT H id with
   | some (.row _ _ xs)=>if HM d then κ ⟨.d ⟨.int .i64,((xs.length:Nat):Int)⟩,[],0⟩ else none
   | some (.dq _ _ xs _ _)=>if HM d then κ ⟨.d ⟨.int .i64,((xs.length:Nat):Int)⟩,[],0⟩ else none
   | _=>none
  | .bs _ n _=>if HM d then κ ⟨.d ⟨.int .i64,((n:Nat):Int)⟩,[],0⟩ else none
  | _=>none
 | none=>none
theorem aaB {o:Oper} {s:bP} {κ:cx→Option R} {z:R} {x:Operand} {t:TypeId} (ho:o.op=.call ⟨.builtin .len,#[x],#[t]⟩) (h:aaA P s.H (s.val x) t κ=some z):wg P o s κ z:=by
 unfold aaA at h;split at h
 ·rename_i d ht;split at h
  ·rename_i m hx;split at h
   ·rename_i hd;have h1:ee s.st x (.str m):=bX hx;exact oD h (Vg ho h1 ht hd)
   ·cases h
  ·rename_i u xs hx;split at h
   ·rename_i hd;have h1:=@bX s x _ hx;exact oD h (NB ho h1 rfl ht hd)
   ·cases h
  ·rename_i hx;split at h
   ·rename_i hd;have h1:=@bX s x _ hx;simp only [TA.av] at h1;exact oD h (NB (n:=0) ho h1 rfl ht hd)
   ·cases h
  ·rename_i id hx;split at h
   ·rename_i u v xs hb;split at h
    ·rename_i hd;have h1:=@bX s x _ hx;simp only [TA.av,fH,hb] at h1;exact oD h (NB (n:=xs.length) ho h1 (by cases v<;>rfl) ht hd)
    ·cases h
   ·rename_i u v xs _ _ hb;split at h
    ·rename_i hd;have h1:=@bX s x _ hx;simp only [TA.av,fH,hb] at h1;exact oD h (NB (n:=xs.length) ho h1 (by cases v<;>rfl) ht hd)
    ·cases h
   ·cases h
  ·rename_i id n bA hx;split at h
   ·rename_i hd;have h1:=@bX s x _ hx;simp only [TA.av] at h1;exact oD h (NB (n:=n) ho h1 rfl ht hd)
   ·cases h
  ·cases h
 ·cases h
def Ym (s:bP) (d:Int):Option Operand→Option Int
 | none=>some d
 | some x=>match s.val x with
  | .d ⟨.int _,i⟩=>some i
  | _=>none
theorem Ml {s:bP} {d i:Int} {x:Option Operand} (h:Ym s d x=some i):Bnd s.st d x i:=by
 unfold Ym at h;split at h
 ·cases h;exact .inl ⟨rfl,rfl⟩
 ·rename_i y;split at h
  ·rename_i k j hy;cases h;exact .inr ⟨y,k,rfl,bX hy⟩
  ·cases h
theorem aaC {bA n m:Nat} {e f:Nat→Nat→AV} (hn:n=m) (h:∀ i j,i < n→e i j=f i j):il (.fs bA n e) (.fs bA m f):=by
 subst hn;intro w F μ K v hv;cases hv with
 | fs _ _ _ b o cap uu hF hc' hu hv=>exact .fs _ _ _ b o cap uu hF hc' hu fun i j hi hj=>h i j hi▸hv i j hi hj
 | v7=>exact .v7 _ _ _ _
theorem acb (u:Ty) (xs:List u.dn) (l h:Int) (e3:h≤xs.length):il (.fs (fy u) (h.toNat-l.toNat) fun i j=>cC u xs (l.toNat+i) j) (cR ⟨.sl u,BR xs l h⟩):=by
 refine aaC ?_ fun i j hi=>?_
 ·show _=(BR xs l h).length;simp only [BR,List.length_drop,List.length_take];omega
 ·show cC u xs (l.toNat+i) j=cC u (BR xs l h) i j;simp only [cC,BR,List.getD,List.getElem?_drop,List.getElem?_take];rw [if_pos (by omega)]
def RR (P:Program) (s:bP) (t:TypeId) (x:TA) (lo hi:Option Operand) (κ:cx→Option R):Option R:=
 match x,P.underlying t with
 | .d ⟨.str,m⟩,some .string=>match Ym s 0 lo,Ym s (List.length (α:=UInt8) m:Nat) hi with
  | some l,some h=>aZ (O8 l h (List.length (α:=UInt8) m)) (κ ⟨.d ⟨.str,BR (α:=UInt8) m l h⟩,[],0⟩)
  | _,_=>none
 | .d ⟨.sl u,xs⟩,some (.slice et)=>match P.info? et,Ym s 0 lo,Ym s (List.length (α:=u.dn) xs:Nat) hi with
  | some ti,some l,some h=>if Nat.beq ti.size (fy u) then aZ (O8 l h (List.length (α:=u.dn) xs)) (κ ⟨.d ⟨.sl u,BR (α:=u.dn) xs l h⟩,[],0⟩) else none
  | _,_,_=>none
 | _,_=>none
theorem VA {o:Oper} {s:bP} {κ:cx→Option R} {z:R} {x:Operand} {t:TypeId} {lo hi:Option Operand} (ho:o.op=.slice t x lo hi none) (h:RR P s t (s.val x) lo hi κ=some z):wg P o s κ z:=by
 unfold RR at h;split at h
 ·rename_i m hx ht;split at h
  ·rename_i l h' hl hh;obtain ⟨e,h⟩:=gg h;obtain ⟨e1,e2,e3⟩:=WA e;have h1:ee s.st x (.str m):=bX hx;exact oD h (Tr ho h1 ht (Ml hl) (Ml hh) e1 e2 e3)
  ·cases h
 ·rename_i u xs et hx ht;split at h
  ·rename_i ti l h' di hl hh;split at h
   ·rename_i he;have he:=Nat.eq_of_beq_eq_true he;obtain ⟨e,h⟩:=gg h;obtain ⟨e1,e2,e3⟩:=WA e;have h1:ee s.st x (.fs (fy u) (List.length (α:=u.dn) xs) (cC u xs)):=@bX s x _ hx;have m_:=Vh (P:=P) ho h1 ht di he (Ml hl) (Ml hh) e1 e2 e3;refine kK h m_ ?_ (by simp only [TA.wf]);simp only [TA.av];exact acb u xs l h' e3
   ·cases h
  ·cases h
 ·cases h
def aaD (s:bP) (fn:Fn) (xs ys:List Operand) (κ:cx→Option R):Option R:=κ ⟨.fn fn (xs.map s.val) (ys.map s.val),[],0⟩
theorem Bx (s:bP):∀ xs:List Operand,Pn s.st xs (dD s.H (xs.map s.val))
 | []=>by simp only [List.map_nil,dD];exact Pn.nil
 | x::r=>by simp only [List.map_cons,dD];exact Pn.cons (gE s x) (Bx s r)
theorem WK {s:bP} (hs:s.ok) (xs:List Operand):im s.H s.N (xs.map s.val):=db.2 fun a ha=>by
 obtain ⟨x,_,rfl⟩:=List.mem_map.1 ha;exact gf hs x
theorem Yn {o:Oper} {s:bP} {κ:cx→Option R} {z:R} {fn:Fn} {xs ys:List Operand} (ho:o.op=.makeFunc fn ⟨xs⟩ ⟨ys⟩) (hs:s.ok) (h:aaD s fn xs ys κ=some z):wg P o s κ z:=
 tg h (by simp only [TA.av];exact Tj ho (Bx s xs) (Bx s ys)) (by simp only [TA.wf];exact ⟨WK hs xs,WK hs ys⟩)
def RS (P:Program) (t:TypeId) (x:TA) (κ:cx→Option R):Option R:=
 match P.underlying t with
 | some d=>if Vf d then none else κ ⟨.pK t x,[],0⟩
 | none=>none
theorem VB {o:Oper} {s:bP} {κ:cx→Option R} {z:R} {x:Operand} {t:TypeId} (ho:o.op=.makeInterface t x) (hs:s.ok) (h:RS P t (s.val x) κ=some z):wg P o s κ z:=by
 unfold RS at h;split at h
 ·rename_i d hd;split at h
  ·cases h
  ·rename_i hi;exact tg h (by simp only [TA.av];exact Kv ho (gE s x) hd (by simpa using hi)) (by simp only [TA.wf];exact gf hs x)
 ·cases h
def ev0 (E:Env) (o:Oper) (s:bP) (κ:cx→Option R):Option R:=
 match o.op with
 | .move x | .assign x=>κ ⟨s.val x,[],0⟩
 | .pick c x y=>Vs (s.val c) (s.val x) (s.val y) κ
 | .extract x i=>KD (s.val x) i κ
 | .unOp op _ x=>aej op (s.val x) κ
 | .binOp op t x y _=>aav E.P op t (s.val x) (s.val y) κ
 | .convert t u x=>RI E.P t u (s.val x) κ
 | .index t x y=>Mh E.P t (s.val x) (s.val y) κ
 | .fieldAddr t x k=>EV E.P s.H t (s.val x) k κ
 | .nilCheck x=>HQ s.H (s.val x) κ
 | .indexAddr t x y=>Vt E.P s.H t (s.val x) (s.val y) κ
 | .load t x=>RK E.P s.H t (s.val x) κ
 | .field t x k=>RL E.P t (s.val x) k κ
 | .box _ x=>WG s (s.val x) κ
 | .alloc t=>Mi E.P s t κ
 | .store t x y=>Mj E.P s.H t (s.val x) (s.val y) κ
 | .makeSlice t x y=>RN E s t (s.val x) (s.val y) κ
 | .build t ⟨ps⟩=>Mk E.P s t ps κ
 | .buildSlice t n ⟨ps⟩=>Fu E s t n ps κ
 | .makeFunc fn ⟨xs⟩ ⟨ys⟩=>aaD s fn xs ys κ
 | .makeInterface t x=>RS E.P t (s.val x) κ
 | .slice t x lo hi none=>RR E.P s t (s.val x) lo hi κ
 | .call ⟨.builtin .len,⟨[x]⟩,⟨[t]⟩⟩=>aaA E.P s.H (s.val x) t κ
 | .call ⟨.builtin .append,⟨[x,y]⟩,⟨[t,u]⟩⟩=>NZ E s (s.val x) (s.val y) t u κ
 | .call ⟨.builtin .copy,⟨[x,y]⟩,⟨[t,_]⟩⟩=>Vz E s (s.val x) (s.val y) t κ
 | _=>none
theorem aem {E:Env} {o:Oper} {s:bP} {κ:cx→Option R} {z:R} (hs:s.ok) (h:ev0 E o s κ=some z):wg E.P o s κ z:=by
 unfold ev0 at h;split at h
 ·rename_i x ho;exact tg h (Wn (.inl ho) (gE s x)) (gf hs x)
 ·rename_i x ho;exact tg h (Wn (.inr ho) (gE s x)) (gf hs x)
 ·rename_i ho;exact Yi ho hs h
 ·rename_i ho;exact RH ho hs h
 ·rename_i ho;exact ab7 ho h
 ·rename_i ho;exact aaw ho h
 ·rename_i ho;exact Qh ho h
 ·rename_i ho;exact NS ho h
 ·rename_i ho;exact NU ho hs h
 ·rename_i ho;exact Pt ho hs h
 ·rename_i ho;exact Yk ho hs h
 ·rename_i ho;exact Qi ho hs h
 ·rename_i ho;exact Vv ho hs h
 ·rename_i ho;exact TD ho hs h
 ·rename_i ho;exact NW ho hs h
 ·rename_i ho;exact NX ho hs h
 ·rename_i ho;exact Qj ho hs h
 ·rename_i ho;exact NY ho hs h
 ·rename_i ho;exact Ji ho hs h
 ·rename_i ho;exact Yn ho hs h
 ·rename_i ho;exact VB ho hs h
 ·rename_i ho;exact VA ho h
 ·rename_i ho;exact aaB ho h
 ·rename_i ho;exact TJ ho hs h
 ·rename_i ho;exact Yl ho hs h
 ·cases h
end Go.Proofs.YtjkbbdldmdajkaaGreatDoor.c_
