/- The evaluator of operations: rows that are made, literals, append, copy, parts; all operations but calls. No condition. -/
import Derived.Test.YtjkbbdldmdajkaaGreatDoorVK
set_option linter.unusedSimpArgs false
set_option linter.unusedVariables false
namespace Go.Proofs.YtjkbbdldmdajkaaGreatDoor.c_
open Go Go.RowKit
variable {w w' xh:World} {F F' Bn O O' vW:Nat→Prop} {μ bD lF:Nat→Nat} {K K' EB:Nat→Prop} {ft bY:Nat→Nat→Prop} {P:Program} {R:Type}
theorem KD {t:Ty} {e:t.dn} {cs:List TA} {ds:List cN} {H:List (Nat×aY)} (hd:te (Gl t) cs=some ds) (he:Mf t ds=some e) (j:Nat) (hj:j < cs.length):ik ((cs.getD j .top).av H) ((sU t e).getD j .top):=by
 obtain ⟨d1,d2,d3,d4⟩:=oA hd;rw [← fH,ff he];intro w F μ K v hv;exact d4 H j hj hv
def RL (E:Env) (s:bP) (t:TypeId) (x y:TA) (κ:cx→Option R):Option R:=
 match x,y,E.P.underlying t with
 | .d ⟨.int .i64,l⟩,.d ⟨.int .i64,c⟩,some (.slice et)=>match E.P.info? et,C9 E.P et,L4 E.tc et with
  | some ti,some zs,some u=>if Nat.beq zs.length ti.size&&Nat.beq ti.size (fx u) then (match te (Gl u) zs with
   | some ds=>match Mf u ds with
    | some e=>aZ (GP l c ti.bytes) (κ ⟨.ow s.N,[(s.N,some (.row u .ms (List.replicate (Int.toNat l) e)))],1⟩)
    | none=>none
   | none=>none) else none
  | _,_,_=>none
 | _,_,_=>none
theorem CC {ts:List Ty} {l:List TA} {r:List cN} (h:te ts l=some r) (H:List (Nat×aY)):(∀ a,a∈er H l→P8 a)∧∀ a,a∈er H l→One a:=by
 refine ⟨fun b hb=>?_,fun b hb=>?_⟩
 ·rw [c7] at hb;obtain ⟨a,ha,rfl⟩:=List.mem_map.1 hb;cases TE:ER a with
  | true=>exact yZ TE
  | false=>exact absurd TE (vh h a ha)
 ·rw [c7] at hb;obtain ⟨a,ha,rfl⟩:=List.mem_map.1 hb;obtain ⟨k,hk,rfl⟩:=List.getElem_of_mem ha;obtain ⟨d1,d2,d3,d4⟩:=oA h;intro w F μ K v' I2;have hv2:VR w F μ K ((l.getD k .top).av H) v':=by rw [getD_eq _ _ hk];exact I2
  have hk2:k < r.length:=by omega
  have h5:(r.map cT).getD k .top=cT r[k]:=by simp [List.getD,hk2]
  exact Jb (d3 _ (List.getElem_mem hk2)) (h5▸d4 H k hk hv2)
theorem xM (H:List (Nat×aY)) {t:Ty} {v:RV} {xs:List t.dn} (h:v.d=false):(aY.row t v xs).dC H=.row v.b (fx t) xs.length (cC t xs):=by
 simp only [aY.dC]
 congr 1
 funext i j;simp only [bV,h]
theorem Qf {E:Env} {o:Oper} {s:bP} {κ:cx→Option R} {z:R} {x y:Operand} {t:TypeId} (ho:o.op=.makeSlice t x y) (hs:s.ok) (h:RL E s t (s.val x) (s.val y) κ=some z):wa E.P o s κ z:=by
 unfold RL at h;split at h
 ·rename_i l c et hx hy ht;have h1:ee s.st x (.int .i64 l):=bX hx;have h2:ee s.st y (.int .i64 c):=bX hy;split at h
  ·rename_i ti zs u hi hz _;split at h
   ·rename_i hc;simp only [Bool.and_eq_true] at hc;have e1:=Nat.eq_of_beq_eq_true hc.1;have e2:=Nat.eq_of_beq_eq_true hc.2;split at h
    ·rename_i ds tq;split at h
     ·rename_i e he;obtain ⟨q,h⟩:=gb h;obtain ⟨q1,q2,q3,q4⟩:=Vo q;obtain ⟨z1,z2⟩:=qd hz s.H s.N;obtain ⟨c1,c2⟩:=CC tq s.H;have m9:=Ry false (fun h=>by cases h) (P:=E.P) (N:=s.N) (e:=cC u (List.replicate (Int.toNat l) e)) ho h1 h2 ht hi z1 (by rw [bG];exact e1) c1 c2 q1 q2 q3 q4 (fun i j di mQ=>by
       rw [dO _ _ _ (by omega)];simp only [cC];have:(List.replicate (Int.toNat l) e).getD i u.df=e:=by simp [List.getD,di]
       rw [this];intro w1 F1 KB K1 v1 JH;exact KD tq he j (by omega) JH)
      refine g_ (k:=1) hs h m9 nK ?_ (by simp only [TA.wf];omega) ?_ (fun l' e=>by cases e)
      ·simp only [TA.av,fG,qc,if_true,List.length_replicate];rw [e2];exact ik.refl _
      ·rw [xM _ rfl];simp only [List.length_replicate];rw [e2];exact eQ.refl _
     ·cases h
    ·cases h
   ·cases h
  ·cases h
 ·cases h
def RM (E:Env) (s:bP) (t:TypeId) (x y:TA) (κ:cx→Option R):Option R:=
 match x,y,E.P.underlying t with
 | .d ⟨.int .i64,l⟩,.d ⟨.int .i64,c⟩,some (.slice et)=>match E.P.info? et,C9 E.P et,L4 E.tc et with
  | some ti,some zs,some u=>if Nat.beq zs.length ti.size&&Nat.beq ti.size (fx u) then (match te (Gl u) zs with
   | some ds=>match Mf u ds with
    | some e=>aZ (GP l c ti.bytes) (aZ (bK 0 l) (κ ⟨.ow s.N,[(s.N,some (.row u .vs (List.replicate (Int.toNat l) e)))],1⟩))
    | none=>none
   | none=>none) else none
  | _,_,_=>none
 | _,_,_=>none
theorem Vt {E:Env} {o:Oper} {s:bP} {κ:cx→Option R} {z:R} {x y:Operand} {t:TypeId} (ho:o.op=.makeSlice t x y) (hs:s.ok) (h:RM E s t (s.val x) (s.val y) κ=some z):wa E.P o s κ z:=by
 unfold RM at h;split at h
 ·rename_i l c et hx hy ht;have h1:ee s.st x (.int .i64 l):=bX hx;have h2:ee s.st y (.int .i64 c):=bX hy;split at h
  ·rename_i ti zs u hi hz _;split at h
   ·rename_i hc;simp only [Bool.and_eq_true] at hc;have e1:=Nat.eq_of_beq_eq_true hc.1;have e2:=Nat.eq_of_beq_eq_true hc.2;split at h
    ·rename_i ds tq;split at h
     ·rename_i e he;obtain ⟨q,h⟩:=gb h;obtain ⟨q0,h⟩:=gb h;have dT:@LT.lt Int _ 0 l:=by simpa only [bK,decide_eq_true_eq] using q0
      have JI:∀ {m:Nat},m=Int.toNat l→m≠0:=fun {m} e h0=>by
       have h2:Int.toNat l=0:=e▸h0;have h3:=Int.toNat_eq_zero.1 h2;exact absurd dT (Int.not_lt.2 h3)
      obtain ⟨q1,q2,q3,q4⟩:=Vo q;obtain ⟨z1,z2⟩:=qd hz s.H s.N;obtain ⟨c1,c2⟩:=CC tq s.H;have m9:=Ry false (fun h=>by cases h) (P:=E.P) (N:=s.N) (e:=cC u (List.replicate (Int.toNat l) e)) ho h1 h2 ht hi z1 (by rw [bG];exact e1) c1 c2 q1 q2 q3 q4 (fun i j di mQ=>by
       rw [dO _ _ _ (by omega)];simp only [cC];have:(List.replicate (Int.toNat l) e).getD i u.df=e:=by simp [List.getD,di]
       rw [this];intro w1 F1 KB K1 v1 JH;exact KD tq he j (by omega) JH)
      refine g_ (k:=1) hs h m9 nK ?_ (by simp only [TA.wf];omega) ?_ (fun l' e=>by cases e)
      ·simp only [TA.av,fG,qc,if_true,List.length_replicate];rw [e2];intro w1 F1 KB K1 v1 JH;have JH:VR w1 F1 KB K1 (.ms s.N 0 l.toNat (fx u)) v1:=JH;show VR w1 F1 KB K1 (.vs s.N l.toNat (fx u)) v1;cases JH with
       | ms _ _ _ _ cap sz t' bZ hc2 hs2 fT=>
        rw [Nat.zero_mul,Nat.zero_add] at *;exact .vs _ _ _ cap sz t' (JI rfl) bZ hc2 hs2 fT
      ·rw [xM _ rfl];simp only [List.length_replicate];rw [e2];exact ⟨fun _=>rfl,fun hB=>hB⟩
     ·cases h
    ·cases h
   ·cases h
  ·cases h
 ·cases h
def HO (s:bP):List (Nat×Operand)→Option (List (Nat×List TA))
 | []=>some []
 | (i,x)::r=>match CA s.H (s.val x),HO s r with
  | some l,some q=>some ((i,l)::q)
  | _,_=>none
theorem Bs {s:bP} (hs:s.ok):∀ {ps:List (Nat×Operand)} {q:List (Nat×List TA)},HO s ps=some q→EL s.st ps (q.map fun p=>(p.1,er s.H p.2))∧∀ p,p∈q→iz s.H s.N p.2
 | [],q,h=>by cases h;exact ⟨.nil,fun p hp=>by cases hp⟩
 | (i,x)::r,q,h=>by
  simp only [HO] at h;split at h
  ·rename_i l q' hl hq;cases h;obtain ⟨h1,h2⟩:=Bs hs hq;obtain ⟨k1,k2⟩:=yY hl (gH hs x);refine ⟨.cons (gC s x) k1 h1,fun p hp=>?_⟩;rcases List.mem_cons.1 hp with e | e
   ·rw [e];exact k2
   ·exact h2 p e
  ·cases h
theorem Bt {α β:Type} (f:α→β) {place:Nat→Option (Nat×Nat)}:∀ {q:List (Nat×List α)} {cs r:List α},oz place cs q=some r→oz place (cs.map f) (q.map fun p=>(p.1,p.2.map f))=some (r.map f)
 | [],cs,r,h=>by cases h;rfl
 | (i,l)::q,cs,r,h=>by
  simp only [oz] at h;simp only [List.map_cons,oz];split at h
  ·cases h
  ·rename_i off size hp;split at h
   ·rename_i hb;simp only [List.length_map,hb,if_true];rw [← TB];exact Bt f h
   ·cases h
theorem Fk {α:Type} {place:Nat→Option (Nat×Nat)}:∀ {q:List (Nat×List α)} {cs r:List α},oz place cs q=some r→∀ a,a∈r→a∈cs∨∃ p,p∈q∧a∈p.2
 | [],cs,r,h,a,ha=>by cases h;exact .inl ha
 | (i,l)::q,cs,r,h,a,ha=>by
  simp only [oz] at h;split at h
  ·cases h
  ·split at h
   ·rcases Fk h a ha with k | ⟨p,k1,k2⟩
    ·rcases TC k with k | k
     ·exact .inl k
     ·exact .inr ⟨(i,l),by simp,k⟩
    ·exact .inr ⟨p,by simp [k1],k2⟩
   ·cases h
theorem RN {α:Type} {place:Nat→Option (Nat×Nat)}:∀ {q:List (Nat×List α)} {cs r:List α},oz place cs q=some r→r.length=cs.length
 | [],cs,r,h=>by cases h;rfl
 | (i,l)::q,cs,r,h=>by
  simp only [oz] at h;split at h
  ·cases h
  ·split at h
   ·rw [RN h,vX]
   ·cases h
def Mj (P:Program) (s:bP) (t:TypeId) (ps:List (Nat×Operand)) (κ:cx→Option R):Option R:=
 match P.underlying t with
 | some (.struct fs)=>match C9 P t,I7 P fs.toList,HO s ps with
  | some zs,some pl,some q=>match oz (fun i=>pl[i]?) zs q with
   | some r=>κ ⟨.agg r,[],0⟩
   | none=>none
  | _,_,_=>none
 | _=>none
theorem NX {o:Oper} {s:bP} {κ:cx→Option R} {z:R} {t:TypeId} {ps:List (Nat×Operand)} (ho:o.op=.build t ⟨ps⟩) (hs:s.ok) (h:Mj P s t ps κ=some z):wa P o s κ z:=by
 unfold Mj at h;split at h
 ·rename_i fs ht;split at h
  ·rename_i zs pl q hz hp hq;split at h
   ·rename_i r hr;obtain ⟨z1,z2⟩:=qd hz s.H s.N;obtain ⟨p1,p2⟩:=Bs hs hq;have hf:=Bt (TA.av s.H) hr;have e:(q.map fun p=>(p.1,p.2.map (TA.av s.H)))=q.map fun p=>(p.1,er s.H p.2):=List.map_congr_left fun p _=>by rw [c7]
    rw [e] at hf;have m9:=aak (P:=P) ho ht z1 hp p1 (r:=er s.H r) (by rw [c7,c7];exact hf);refine tf h (by simpa only [TA.av] using m9) ?_;simp only [TA.wf];refine dg.2 fun a ha=>?_;rcases Fk hr a ha with k | ⟨p,k1,k2⟩
    ·exact dg.1 z2 a k
    ·exact dg.1 (p2 p k1) a k2
   ·cases h
  ·cases h
 ·cases h
def ab6 (t:Ty):Nat→List TA→Option (List t.dn)
 | 0,_=>some []
 | n+1,cs=>match te (Gl t) (cs.take (fx t)) with
  | some ds=>match Mf t ds,ab6 t n (cs.drop (fx t)) with
   | some e,some r=>some (e::r)
   | _,_=>none
  | none=>none
theorem WE {t:Ty}:∀ {n:Nat} {cs:List TA} {xs:List t.dn},ab6 t n cs=some xs→n*fx t≤cs.length→xs.length=n∧(∀ a,a∈cs.take (n*fx t)→ER a≠false)∧(∀ H a,a∈er H (cs.take (n*fx t))→One a)∧
  ∀ H i j,i < n→j < fx t→ik ((cs.getD (i*fx t+j) .top).av H) (cC t xs i j)
 | 0,cs,xs,h,_=>by
  cases h;exact ⟨rfl,by simp,by simp [er],fun H i j hi=>by omega⟩
 | n+1,cs,xs,h,hl=>by
  simp only [ab6] at h;split at h
  ·rename_i ds tq;split at h
   ·rename_i e r he hr;cases h;rw [Nat.add_mul,Nat.one_mul] at hl ⊢;obtain ⟨h1,h2,h3,h4⟩:=WE hr (by simp;omega);have hsp:cs.take (n*fx t+fx t)=cs.take (fx t)++(cs.drop (fx t)).take (n*fx t):=by
     rw [Nat.add_comm,List.take_add]
    refine ⟨by simp [h1],fun a ha=>?_,fun H a ha=>?_,fun H i j hi hj=>?_⟩
    ·rw [hsp] at ha;rcases List.mem_append.1 ha with k | k
     ·exact vh tq a k
     ·exact h2 a k
    ·rw [hsp,c7,List.map_append,← c7,← c7] at ha;rcases List.mem_append.1 ha with k | k
     ·exact (CC tq H).2 a k
     ·exact h3 H a k
    ·cases i with
     | zero=>
      simp only [Nat.zero_mul,Nat.zero_add,cC];have TF:j < (cs.take (fx t)).length:=by simp;omega
      have e2:(cs.take (fx t)).getD j .top=cs.getD j .top:=by simp [List.getD,List.getElem?_take,hj]
      rw [← e2];intro w1 F1 KB K1 v1 JH;exact KD tq he j TF JH
     | succ i=>
      have e2:(cs.drop (fx t)).getD (i*fx t+j) .top=cs.getD ((i+1)*fx t+j) .top:=by
       simp only [List.getD,List.getElem?_drop]
       congr 2
       rw [Nat.add_mul,Nat.one_mul];omega
      rw [← e2];intro w1 F1 KB K1 v1 JH;exact h4 H i j (by omega) hj JH
   ·cases h
  ·cases h
def Fl (E:Env) (s:bP) (t:TypeId) (n:Nat) (ps:List (Nat×Operand)) (κ:cx→Option R):Option R:=
 match E.P.underlying t with
 | some (.slice et)=>match E.P.info? et,C9 E.P et,HO s ps with
  | some ti,some zs,some q=>match oz (fun i=>some (i*ti.size,ti.size)) ((List.range n).flatMap fun _=>zs) q with
   | some r=>if ((Nat.beq zs.length ti.size&&!Nat.beq ti.size 0)&&(n*ti.size).ble 16777216)&&Nat.beq r.length (n*ti.size) then
     (match L4 E.tc et with
     | some u=>if Nat.beq (fx u) ti.size then (match ab6 u n r with
      | some xs=>κ ⟨.ow s.N,[(s.N,some (.row u .ms xs))],1⟩
      | none=>none) else none
     | none=>κ ⟨.bs s.N n ti.size,[(s.N,some (.box r))],1⟩) else none
   | none=>none
  | _,_,_=>none
 | _=>none
theorem Jg {E:Env} {o:Oper} {s:bP} {κ:cx→Option R} {z:R} {t:TypeId} {n:Nat} {ps:List (Nat×Operand)} (ho:o.op=.buildSlice t n ⟨ps⟩) (hs:s.ok) (h:Fl E s t n ps κ=some z):wa E.P o s κ z:=by
 unfold Fl at h;split at h
 ·rename_i et ht;split at h
  ·rename_i ti zs q hi hz hq;split at h
   ·rename_i r hr;split at h
    ·rename_i hb;simp only [Bool.and_eq_true,Bool.not_eq_true'] at hb;have e1:=Nat.eq_of_beq_eq_true hb.1.1.1;have e2:=Nat.ne_of_beq_eq_false hb.1.1.2;have e3:=Nat.le_of_ble_eq_true hb.1.2;have e4:=Nat.eq_of_beq_eq_true hb.2;obtain ⟨z1,z2⟩:=qd hz s.H s.N;obtain ⟨p1,p2⟩:=Bs hs hq;have hf:=Bt (TA.av s.H) hr;have e:(q.map fun p=>(p.1,p.2.map (TA.av s.H)))=q.map fun p=>(p.1,er s.H p.2):=List.map_congr_left fun p _=>by rw [c7]
     have e5:((List.range n).flatMap fun _=>zs).map (TA.av s.H)=(List.range n).flatMap fun _=>er s.H zs:=by rw [List.map_flatMap,c7]
     rw [e,e5,← c7] at hf;have hwr:iz s.H s.N r:=dg.2 fun a ha=>by
      rcases Fk hr a ha with k | ⟨p,k1,k2⟩
      ·obtain ⟨_,_,k⟩:=List.mem_flatMap.1 k;exact dg.1 z2 a k
      ·exact dg.1 (p2 p k1) a k2
     split at h
     ·rename_i u _;split at h
      ·rename_i e6;have e6:=Nat.eq_of_beq_eq_true e6;split at h
       ·rename_i xs hxs;obtain ⟨b1,b2,b3,b4⟩:=WE hxs (by rw [e6];omega);have etk:r.take (n*fx u)=r:=List.take_of_length_le (by rw [e6];omega);rw [etk] at b2 b3;have m9:=Pn (P:=E.P) (N:=s.N) (e:=cC u xs) ho ht hi z1 (by rw [bG];exact e1) e2 e3 p1 hf
         (fun b cl=>by
          rw [c7] at cl;obtain ⟨a,ha,rfl⟩:=List.mem_map.1 cl;cases TE:ER a with
          | true=>exact yZ TE
          | false=>exact absurd TE (b2 a ha)) (b3 s.H)
         (fun i j di mQ=>by
          have h4:(i+1)*ti.size≤n*ti.size:=Nat.mul_le_mul_right _ di;rw [Nat.add_mul,Nat.one_mul] at h4;rw [dO _ _ _ (by omega)];rw [← e6];intro w1 F1 KB K1 v1 JH;exact b4 s.H i j di (by omega) JH)
        refine g_ (k:=1) hs h m9 nK ?_ (by simp only [TA.wf];omega) ?_ (fun l' e=>by cases e)
        ·simp only [TA.av,fG,qc,if_true,b1,e6];exact ik.refl _
        ·rw [xM _ rfl];simp only [b1,e6];exact eQ.refl _
       ·cases h
      ·cases h
     ·have m9:=I8 (P:=E.P) (N:=s.N) ho ht hi z1 (by rw [bG];exact e1) e2 e3 p1 hf;exact g_ (k:=1) hs h m9 nK (by simp only [TA.av];exact ik.refl _) (by simp only [TA.wf]) (Je (N:=s.N) nK hwr) (fun l' e=>by cases e;exact hwr)
    ·cases h
   ·cases h
  ·cases h
 ·cases h
theorem Vu {t:Ty} (xs ys:List t.dn) (i j:Nat):cC t (xs++ys) i j=if i < xs.length then cC t xs i j else cC t ys (i-xs.length) j:=by
 simp only [cC,List.getD];split
 ·rename_i h;rw [List.getElem?_append_left h]
 ·rename_i h;rw [List.getElem?_append_right (Nat.le_of_not_lt h)]
def aav (H:List (Nat×aY)) (t:Ty):TA→Option (List t.dn)
 | .d ⟨.sl u,ys⟩=>if h:u=t then some (h▸(ys:List u.dn)) else none
 | .fA=>some []
 | .ow id=>match aT H id with
  | some (.row u v ys)=>match v.d with
   | true=>none
   | false=>if h:u=t then some (h▸ys) else none
  | _=>none
 | _=>none
theorem RO {s:bP} {t:Ty} {y:Operand} {ys:List t.dn} (h:aav s.H t (s.val y)=some ys) (h0:fx t≠0):Src P s.st y (fx t) ys.length (cC t ys) []:=by
 unfold aav at h;split at h
 ·rename_i u zs hy;split at h
  ·rename_i e;subst e;cases h;exact ad_ h0 (@bX s y _ hy)
  ·cases h
 ·rename_i hy;cases h;have h1:=@bX s y _ hy;simp only [TA.av] at h1;exact aal h0 h1 _
 ·rename_i id hy;split at h
  ·rename_i u v zs hb;split at h
   ·cases h
   ·rename_i hv;split at h
    ·rename_i e;subst e;cases h;have h1:=@bX s y _ hy;simp only [TA.av,fG,hb] at h1;exact abR h0 h1 (by rw [dG hb,xM _ hv]) fun i j _ _=>Lu _ _ _
    ·cases h
  ·cases h
 ·cases h
def WG (H:List (Nat×aY)):TA→Bool
 | .ow id=>match aT H id with
  | some (.row _ v _)=>v.d
  | _=>false
 | _=>false
def aeg (H:List (Nat×aY)) (t:Ty) (a:TA):Option (List t.dn×List Nat):=
 match WG H a with
 | true=>match a with
  | .ow id=>match aT H id with
   | some (.row u _ ys)=>if h:u=t then some (h▸ys,[id]) else none
   | _=>none
  | _=>none
 | false=>match aav H t a with
  | some ys=>some (ys,[])
  | none=>none
theorem ab7 {s:bP} {t:Ty} {y:Operand} {ys:List t.dn} {L:List Nat} (h:aeg s.H t (s.val y)=some (ys,L)) (h0:fx t≠0) {v:RV} (hv:v.d=WG s.H (s.val y)):Src P s.st y (fx t) ys.length (bV v t ys) L:=by
 unfold aeg at h;split at h
 ·rename_i hd;split at h
  ·rename_i id hy;split at h
   ·rename_i u v' zs hb;split at h
    ·rename_i e;subst e;cases h;have h1:=@bX s y _ hy;simp only [TA.av,fG,hb] at h1;have I2:v'.d=true:=by rw [hy] at hd;simpa only [WG,hb] using hd
     have e:bV v u zs=bV v' u zs:=by funext i j;simp only [bV,hv,hd,I2]
     rw [e];exact Wo h0 h1 (dG hb)
    ·cases h
   ·cases h
  ·cases h
 ·rename_i hd;split at h
  ·rename_i zs hz;cases h;have e:bV v t ys=cC t ys:=by funext i j;simp only [bV,hv,hd]
   rw [e];exact RO hz h0
  ·cases h
def aeh (H:List (Nat×aY)) (d:Bool) (t:Ty):TA→Option (RV×List t.dn×List Nat)
 | .fA=>match d with
  | true=>some (.dv,[],[])
  | false=>some (.vs,[],[])
 | .ow id=>match aT H id with
  | some (.row u v xs)=>match v.d,d with
   | true,true=>if h:u=t then some (v,h▸xs,[id]) else none
   | false,false=>if h:u=t then some (v,h▸xs,[id]) else none
   | _,_=>none
  | _=>none
 | _=>none
theorem ab8 {s:bP} {d:Bool} {t:Ty} {x:Operand} {v:RV} {xs:List t.dn} {D:List Nat} (h:aeh s.H d t (s.val x)=some (v,xs,D)):Dst s.st x (fx t) v.b xs.length (bV v t xs) D∧v.d=d:=by
 unfold aeh at h;split at h
 ·rename_i hx;have h1:=@bX s x _ hx;simp only [TA.av] at h1;cases d<;>cases h<;>exact ⟨.fA _ h1,rfl⟩
 ·rename_i id hx;split at h
  ·rename_i u v' zs hb;have h1:=@bX s x _ hx;simp only [TA.av,fG,hb] at h1;split at h
   ·rename_i hv;split at h
    ·rename_i e;subst e;cases h;exact ⟨.own _ _ _ _ h1 (dG hb),hv⟩
    ·cases h
   ·rename_i hv;split at h
    ·rename_i e;subst e;cases h;exact ⟨.own _ _ _ _ h1 (dG hb),hv⟩
    ·cases h
   ·cases h
  ·cases h
 ·cases h
theorem Vv {v:RV} {t:Ty} (xs ys:List t.dn) (i j:Nat):bV v t (xs++ys) i j=if i < xs.length then bV v t xs i j else bV v t ys (i-xs.length) j:=by
 simp only [bV,Vu];split<;>split<;>rfl
def NY (E:Env) (s:bP) (x y:TA) (t u:TypeId) (κ:cx→Option R):Option R:=
 match E.P.underlying t,E.P.underlying u with
 | some (.slice et),some (.slice _)=>match E.P.info? et,L4 E.tc et with
  | some ti,some q=>match ti.zero with
   | some z=>if ((!Nat.beq ti.size 0&&Nat.beq z.cells.size ti.size)&&ti.bytes.ble 4294967296)&&Nat.beq ti.size (fx q) then (match aeh s.H (WG s.H y) q x,aeg s.H q y with
    | some (v,xs,D),some (ys,L)=>if D.all fun i=>!(L.any fun j=>Nat.beq i j) then aZ (mv (xs.length+ys.length) ti.bytes) (κ ⟨.ow s.N,(s.N,some (.row q v (xs++ys)))::(D++L).map fun i=>(i,none),1⟩) else none
    | _,_=>none) else none
   | none=>none
  | _,_=>none
 | _,_=>none
theorem TG {E:Env} {o:Oper} {s:bP} {κ:cx→Option R} {z:R} {x y:Operand} {t u:TypeId} (ho:o.op=.call ⟨.builtin .append,#[x,y],#[t,u]⟩) (hs:s.ok) (h:NY E s (s.val x) (s.val y) t u κ=some z):wa E.P o s κ z:=by
 unfold NY at h;split at h
 ·rename_i et eu ht hu;split at h
  ·rename_i ti q hi _;split at h
   ·rename_i z' hz;split at h
    ·rename_i hc;simp only [Bool.and_eq_true,Bool.not_eq_true'] at hc;have e0:=Nat.ne_of_beq_eq_false hc.1.1.1;have e1:=Nat.eq_of_beq_eq_true hc.1.1.2;have e2:=Nat.le_of_ble_eq_true hc.1.2;have e3:=Nat.eq_of_beq_eq_true hc.2;split at h
     ·rename_i v xs D ys L hd gf;split at h
      ·rename_i agU;obtain ⟨qb,h⟩:=gb h;obtain ⟨b1,b2⟩:=abZ qb;obtain ⟨NN,hdv⟩:=ab8 hd;have IA:=ab7 (P:=E.P) gf (by omega) hdv;rw [← e3] at NN IA;have m9:=X6 (P:=E.P) (N:=s.N) (e':=bV v q (xs++ys)) ho ht hu hi hz e0 e1 NN IA (fun id h1 h2=>by
        have:=List.all_eq_true.1 agU id h1;simp only [Bool.not_eq_true',List.any_eq_false] at this;exact this id h2 (by simp)) b1 b2 e2 (fun i j _ _=>Vv xs ys i j)
       have sub:Sub s.H (cD s.H ((s.N,some (.row q v (xs++ys)))::(D++L).map fun i=>(i,none))) s.N:=xE fun h=>absurd h (by omega);refine ⟨⟨.ow s.N,(s.N,some (.row q v (xs++ys)))::(D++L).map fun i=>(i,none),1⟩,RB (k:=1) hs m9 sub ?_ ?_,⟨sub,by simp only [TA.wf];omega,fun id l hl=>?_⟩,h⟩
       ·simp only [TA.av,fG,cD,aT,Nat.beq_refl,List.length_append];rw [e3];exact ik.refl _
       ·simp only [aY.dC,List.length_append];rw [e3];exact eQ.refl _
       ·simp only [List.mem_cons,Prod.mk.injEq,Option.some.injEq,List.mem_map] at hl;rcases hl with ⟨_,h⟩ | ⟨_,_,_,h⟩
        ·rw [h];simp only [aY.refs,iz]
        ·cases h
      ·cases h
     ·cases h
    ·cases h
   ·cases h
  ·cases h
 ·cases h
def leq (m n:Nat):Bool:=Nat.beq m n
def Vw (E:Env) (s:bP) (x y:TA) (t:TypeId) (κ:cx→Option R):Option R:=
 match E.P.underlying t,x with
 | some (.slice et),.ow id=>match E.P.info? et,aT s.H id with
  | some ti,some (.row q v xs)=>if (!Nat.beq ti.size 0&&Nat.beq ti.size (fx q))&&!v.d then (match aav s.H q y with
   | some ys=>aZ (leq ys.length xs.length) (κ ⟨.d ⟨.int .i64,(xs.length:Int)⟩,[(id,some (.row q v ys))],0⟩)
   | none=>none) else none
  | _,_=>none
 | _,_=>none
theorem Yi {E:Env} {o:Oper} {s:bP} {κ:cx→Option R} {z:R} {x y:Operand} {t u:TypeId} (ho:o.op=.call ⟨.builtin .copy,#[x,y],#[t,u]⟩) (hs:s.ok) (h:Vw E s (s.val x) (s.val y) t κ=some z):wa E.P o s κ z:=by
 unfold Vw at h;split at h
 ·rename_i et id ht hx;split at h
  ·rename_i ti q v xs hi hb;split at h
   ·rename_i hc;simp only [Bool.and_eq_true,Bool.not_eq_true'] at hc;have hvd:=hc.2;have hc:=hc.1;have e0:=Nat.ne_of_beq_eq_false hc.1;have e1:=Nat.eq_of_beq_eq_true hc.2;split at h
    ·rename_i ys gf;obtain ⟨qb,h⟩:=gb h;have el:ys.length=xs.length:=Nat.eq_of_beq_eq_true qb;have IA:=RO (P:=E.P) gf (by omega);have h1:=@bX s x _ hx;simp only [TA.av,fG,hb] at h1;rw [← e1] at h1 IA;rw [el] at IA;have m9:=abS (P:=E.P) (v:=v.b) (id:=id) (e:=cC q xs) ho ht hi e0 h1 (by rw [dG hb,xM _ hvd];simp only [e1]) IA (fun i j _ _=>Lu _ _ _);refine g_ (k:=0) hs h m9 (WB hb el.symm) (by simp only [TA.av,cT];exact ik.refl _) (by simp only [TA.wf]) ?_ (fun l' e=>by cases e);rw [xM _ hvd];simp only [el,e1];exact eQ.refl _
    ·cases h
   ·cases h
  ·cases h
 ·cases h
def aaw (P:Program) (H:List (Nat×aY)) (x:TA) (t:TypeId) (κ:cx→Option R):Option R:=
 match P.underlying t with
 | some d=>match x with
  | .d ⟨.str,m⟩=>if Rt d then κ ⟨.d ⟨.int .i64,((List.length (α:=UInt8) m:Nat):Int)⟩,[],0⟩ else none
  | .d ⟨.sl u,xs⟩=>if HH d then κ ⟨.d ⟨.int .i64,((List.length (α:=u.dn) xs:Nat):Int)⟩,[],0⟩ else none
  | .fA=>if HH d then κ ⟨.d ⟨.int .i64,(0:Int)⟩,[],0⟩ else none
  | .ow id=>match aT H id with
   | some (.row _ _ xs)=>if HH d then κ ⟨.d ⟨.int .i64,((xs.length:Nat):Int)⟩,[],0⟩ else none
   | some (.dq _ _ xs _ _)=>if HH d then κ ⟨.d ⟨.int .i64,((xs.length:Nat):Int)⟩,[],0⟩ else none
   | _=>none
  | .bs _ n _=>if HH d then κ ⟨.d ⟨.int .i64,((n:Nat):Int)⟩,[],0⟩ else none
  | _=>none
 | none=>none
theorem aax {o:Oper} {s:bP} {κ:cx→Option R} {z:R} {x:Operand} {t:TypeId} (ho:o.op=.call ⟨.builtin .len,#[x],#[t]⟩) (h:aaw P s.H (s.val x) t κ=some z):wa P o s κ z:=by
 unfold aaw at h;split at h
 ·rename_i d ht;split at h
  ·rename_i m hx;split at h
   ·rename_i hd;have h1:ee s.st x (.str m):=bX hx;exact oC h (Vd ho h1 ht hd)
   ·cases h
  ·rename_i u xs hx;split at h
   ·rename_i hd;have h1:=@bX s x _ hx;exact oC h (NA ho h1 rfl ht hd)
   ·cases h
  ·rename_i hx;split at h
   ·rename_i hd;have h1:=@bX s x _ hx;simp only [TA.av] at h1;exact oC h (NA (n:=0) ho h1 rfl ht hd)
   ·cases h
  ·rename_i id hx;split at h
   ·rename_i u v xs hb;split at h
    ·rename_i hd;have h1:=@bX s x _ hx;simp only [TA.av,fG,hb] at h1;exact oC h (NA (n:=xs.length) ho h1 (by cases v<;>rfl) ht hd)
    ·cases h
   ·rename_i u v xs _ _ hb;split at h
    ·rename_i hd;have h1:=@bX s x _ hx;simp only [TA.av,fG,hb] at h1;exact oC h (NA (n:=xs.length) ho h1 (by cases v<;>rfl) ht hd)
    ·cases h
   ·cases h
  ·rename_i id n bA hx;split at h
   ·rename_i hd;have h1:=@bX s x _ hx;simp only [TA.av] at h1;exact oC h (NA (n:=n) ho h1 rfl ht hd)
   ·cases h
  ·cases h
 ·cases h
def Yj (s:bP) (d:Int):Option Operand→Option Int
 | none=>some d
 | some x=>match s.val x with
  | .d ⟨.int _,i⟩=>some i
  | _=>none
theorem Mk {s:bP} {d i:Int} {x:Option Operand} (h:Yj s d x=some i):Bnd s.st d x i:=by
 unfold Yj at h;split at h
 ·cases h;exact .inl ⟨rfl,rfl⟩
 ·rename_i y;split at h
  ·rename_i k j hy;cases h;exact .inr ⟨y,k,rfl,bX hy⟩
  ·cases h
theorem aay {bA n m:Nat} {e f:Nat→Nat→AV} (hn:n=m) (h:∀ i j,i < n→e i j=f i j):ik (.fs bA n e) (.fs bA m f):=by
 subst hn;intro w F μ K v hv;cases hv with
 | fs _ _ _ b o cap uu hF hc' hu hv=>exact .fs _ _ _ b o cap uu hF hc' hu fun i j hi hj=>h i j hi▸hv i j hi hj
 | vV=>exact .vV _ _ _ _
theorem ab9 (u:Ty) (xs:List u.dn) (l h:Int) (e3:h≤xs.length):ik (.fs (fx u) (h.toNat-l.toNat) fun i j=>cC u xs (l.toNat+i) j) (cT ⟨.sl u,BQ xs l h⟩):=by
 refine aay ?_ fun i j hi=>?_
 ·show _=(BQ xs l h).length;simp only [BQ,List.length_drop,List.length_take];omega
 ·show cC u xs (l.toNat+i) j=cC u (BQ xs l h) i j;simp only [cC,BQ,List.getD,List.getElem?_drop,List.getElem?_take];rw [if_pos (by omega)]
def RP (P:Program) (s:bP) (t:TypeId) (x:TA) (lo hi:Option Operand) (κ:cx→Option R):Option R:=
 match x,P.underlying t with
 | .d ⟨.str,m⟩,some .string=>match Yj s 0 lo,Yj s (List.length (α:=UInt8) m:Nat) hi with
  | some l,some h=>aZ (O5 l h (List.length (α:=UInt8) m)) (κ ⟨.d ⟨.str,BQ (α:=UInt8) m l h⟩,[],0⟩)
  | _,_=>none
 | .d ⟨.sl u,xs⟩,some (.slice et)=>match P.info? et,Yj s 0 lo,Yj s (List.length (α:=u.dn) xs:Nat) hi with
  | some ti,some l,some h=>if Nat.beq ti.size (fx u) then aZ (O5 l h (List.length (α:=u.dn) xs)) (κ ⟨.d ⟨.sl u,BQ (α:=u.dn) xs l h⟩,[],0⟩) else none
  | _,_,_=>none
 | _,_=>none
theorem Vx {o:Oper} {s:bP} {κ:cx→Option R} {z:R} {x:Operand} {t:TypeId} {lo hi:Option Operand} (ho:o.op=.slice t x lo hi none) (h:RP P s t (s.val x) lo hi κ=some z):wa P o s κ z:=by
 unfold RP at h;split at h
 ·rename_i m hx ht;split at h
  ·rename_i l h' hl hh;obtain ⟨e,h⟩:=gb h;obtain ⟨e1,e2,e3⟩:=Wx e;have h1:ee s.st x (.str m):=bX hx;exact oC h (Tn ho h1 ht (Mk hl) (Mk hh) e1 e2 e3)
  ·cases h
 ·rename_i u xs et hx ht;split at h
  ·rename_i ti l h' di hl hh;split at h
   ·rename_i he;have he:=Nat.eq_of_beq_eq_true he;obtain ⟨e,h⟩:=gb h;obtain ⟨e1,e2,e3⟩:=Wx e;have h1:ee s.st x (.fs (fx u) (List.length (α:=u.dn) xs) (cC u xs)):=@bX s x _ hx;have m9:=Ve (P:=P) ho h1 ht di he (Mk hl) (Mk hh) e1 e2 e3;refine kJ h m9 ?_ (by simp only [TA.wf]);simp only [TA.av];exact ab9 u xs l h' e3
   ·cases h
  ·cases h
 ·cases h
def aaz (s:bP) (fn:Fn) (xs ys:List Operand) (κ:cx→Option R):Option R:=κ ⟨.fn fn (xs.map s.val) (ys.map s.val),[],0⟩
theorem Bu (s:bP):∀ xs:List Operand,Pl s.st xs (er s.H (xs.map s.val))
 | []=>by simp only [List.map_nil,er];exact Pl.nil
 | x::r=>by simp only [List.map_cons,er];exact Pl.cons (gC s x) (Bu s r)
theorem WH {s:bP} (hs:s.ok) (xs:List Operand):iz s.H s.N (xs.map s.val):=dg.2 fun a ha=>by
 obtain ⟨x,_,rfl⟩:=List.mem_map.1 ha;exact gH hs x
theorem Yk {o:Oper} {s:bP} {κ:cx→Option R} {z:R} {fn:Fn} {xs ys:List Operand} (ho:o.op=.makeFunc fn ⟨xs⟩ ⟨ys⟩) (hs:s.ok) (h:aaz s fn xs ys κ=some z):wa P o s κ z:=
 tf h (by simp only [TA.av];exact Tg ho (Bu s xs) (Bu s ys)) (by simp only [TA.wf];exact ⟨WH hs xs,WH hs ys⟩)
def RQ (P:Program) (t:TypeId) (x:TA) (κ:cx→Option R):Option R:=
 match P.underlying t with
 | some d=>if Vc d then none else κ ⟨.pJ t x,[],0⟩
 | none=>none
theorem Vy {o:Oper} {s:bP} {κ:cx→Option R} {z:R} {x:Operand} {t:TypeId} (ho:o.op=.makeInterface t x) (hs:s.ok) (h:RQ P t (s.val x) κ=some z):wa P o s κ z:=by
 unfold RQ at h;split at h
 ·rename_i d hd;split at h
  ·cases h
  ·rename_i hi;exact tf h (by simp only [TA.av];exact Ku ho (gC s x) hd (by simpa using hi)) (by simp only [TA.wf];exact gH hs x)
 ·cases h
def ev0 (E:Env) (o:Oper) (s:bP) (κ:cx→Option R):Option R:=
 match o.op with
 | .move x | .assign x=>κ ⟨s.val x,[],0⟩
 | .pick c x y=>Vp (s.val c) (s.val x) (s.val y) κ
 | .extract x i=>KC (s.val x) i κ
 | .unOp op _ x=>aef op (s.val x) κ
 | .binOp op t x y _=>aar E.P op t (s.val x) (s.val y) κ
 | .convert t u x=>RG E.P t u (s.val x) κ
 | .index t x y=>Mg E.P t (s.val x) (s.val y) κ
 | .fieldAddr t x k=>EP E.P s.H t (s.val x) k κ
 | .nilCheck x=>HM s.H (s.val x) κ
 | .indexAddr t x y=>Vq E.P s.H t (s.val x) (s.val y) κ
 | .load t x=>RI E.P s.H t (s.val x) κ
 | .field t x k=>RJ E.P t (s.val x) k κ
 | .box _ x=>WC s (s.val x) κ
 | .alloc t=>Mh E.P s t κ
 | .store t x y=>Mi E.P s.H t (s.val x) (s.val y) κ
 | .makeSlice t x y=>RL E s t (s.val x) (s.val y) κ
 | .build t ⟨ps⟩=>Mj E.P s t ps κ
 | .buildSlice t n ⟨ps⟩=>Fl E s t n ps κ
 | .makeFunc fn ⟨xs⟩ ⟨ys⟩=>aaz s fn xs ys κ
 | .makeInterface t x=>RQ E.P t (s.val x) κ
 | .slice t x lo hi none=>RP E.P s t (s.val x) lo hi κ
 | .call ⟨.builtin .len,⟨[x]⟩,⟨[t]⟩⟩=>aaw E.P s.H (s.val x) t κ
 | .call ⟨.builtin .append,⟨[x,y]⟩,⟨[t,u]⟩⟩=>NY E s (s.val x) (s.val y) t u κ
 | .call ⟨.builtin .copy,⟨[x,y]⟩,⟨[t,_]⟩⟩=>Vw E s (s.val x) (s.val y) t κ
 | _=>none
theorem aei {E:Env} {o:Oper} {s:bP} {κ:cx→Option R} {z:R} (hs:s.ok) (h:ev0 E o s κ=some z):wa E.P o s κ z:=by
 unfold ev0 at h;split at h
 ·rename_i x ho;exact tf h (Wk (.inl ho) (gC s x)) (gH hs x)
 ·rename_i x ho;exact tf h (Wk (.inr ho) (gC s x)) (gH hs x)
 ·rename_i ho;exact Yf ho hs h
 ·rename_i ho;exact RF ho hs h
 ·rename_i ho;exact ab4 ho h
 ·rename_i ho;exact aas ho h
 ·rename_i ho;exact Qd ho h
 ·rename_i ho;exact NR ho h
 ·rename_i ho;exact NT ho hs h
 ·rename_i ho;exact Pq ho hs h
 ·rename_i ho;exact Yh ho hs h
 ·rename_i ho;exact Qe ho hs h
 ·rename_i ho;exact Vs ho hs h
 ·rename_i ho;exact Tz ho hs h
 ·rename_i ho;exact NV ho hs h
 ·rename_i ho;exact NW ho hs h
 ·rename_i ho;exact Qf ho hs h
 ·rename_i ho;exact NX ho hs h
 ·rename_i ho;exact Jg ho hs h
 ·rename_i ho;exact Yk ho hs h
 ·rename_i ho;exact Vy ho hs h
 ·rename_i ho;exact Vx ho h
 ·rename_i ho;exact aax ho h
 ·rename_i ho;exact TG ho hs h
 ·rename_i ho;exact Yi ho hs h
 ·cases h
end Go.Proofs.YtjkbbdldmdajkaaGreatDoor.c_
