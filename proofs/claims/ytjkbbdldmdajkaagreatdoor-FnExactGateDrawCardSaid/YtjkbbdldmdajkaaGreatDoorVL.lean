/- The evaluator of operations: rows that are made, literals, append, copy, parts; all operations but calls. No condition. -/
import Derived.Test.YtjkbbdldmdajkaaGreatDoorVK
set_option linter.unusedSimpArgs false
set_option linter.unusedVariables false
namespace Go.Proofs.YtjkbbdldmdajkaaGreatDoor.c5
open Go Go.RowKit
variable {w w' ss:World} {F F' zT O O' uo:Nat→Prop} {μ aZ jE:Nat→Nat} {K K' C9:Nat→Prop} {ft bX:Nat→Nat→Prop} {P:Program} {R:Type}
theorem J5 {t:Ty} {e:t.dn} {cs:List TA} {ds:List cG} {H:List (Nat×aX)} (hd:si (FI t) cs=some ds) (he:LL t ds=some e) (j:Nat) (hj:j < cs.length):g8 ((cs.getD j .top).av H) ((r9 t e).getD j .top):=by
 obtain ⟨d1,d2,d3,d4⟩:=nK hd;rw [← fw,eU he];intro w F μ K v hv;exact d4 H j hj hv
def Rc (E:Env) (s:bL) (t:TypeId) (x y:TA) (κ:cu→Option R):Option R:=
 match x,y,E.P.underlying t with
 | .d ⟨.int .i64,l⟩,.d ⟨.int .i64,c⟩,some (.slice et)=>match E.P.info? et,Cw E.P et,Lw E.tc et with
  | some ti,some zs,some u=>if Nat.beq zs.length ti.size&&Nat.beq ti.size (ff u) then (match si (FI u) zs with
   | some ds=>match LL u ds with
    | some e=>bE (Gf l c ti.bytes) (κ ⟨.ow s.N,[(s.N,some (.row u .ms (List.replicate (Int.toNat l) e)))],1⟩)
    | none=>none
   | none=>none) else none
  | _,_,_=>none
 | _,_,_=>none
theorem BX {ts:List Ty} {l:List TA} {r:List cG} (h:si ts l=some r) (H:List (Nat×aX)):(∀ a,a∈di H l→PI a)∧∀ a,a∈di H l→One a:=by
 refine ⟨fun b hb=>?_,fun b hb=>?_⟩
 ·rw [cW] at hb;obtain ⟨a,ha,rfl⟩:=List.mem_map.1 hb;cases S_:Eg a with
  | true=>exact yg S_
  | false=>exact absurd S_ (uv h a ha)
 ·rw [cW] at hb;obtain ⟨a,ha,rfl⟩:=List.mem_map.1 hb;obtain ⟨k,hk,rfl⟩:=List.getElem_of_mem ha;obtain ⟨d1,d2,d3,d4⟩:=nK h;intro w F μ K v' Iw;have hv2:VR w F μ K ((l.getD k .top).av H) v':=by rw [getD_eq _ _ hk];exact Iw
  have hk2:k < r.length:=by omega
  have h5:(r.map cL).getD k .top=cL r[k]:=by simp [List.getD,hk2]
  exact IG (d3 _ (List.getElem_mem hk2)) (h5▸d4 H k hk hv2)
theorem wS (H:List (Nat×aX)) {t:Ty} {v:RV} {xs:List t.dn} (h:v.d=false):(aX.row t v xs).du H=.row v.b (ff t) xs.length (cz t xs):=by
 simp only [aX.du]
 congr 1
 funext i j;simp only [bV,h]
theorem PR {E:Env} {o:Oper} {s:bL} {κ:cu→Option R} {z:R} {x y:Operand} {t:TypeId} (ho:o.op=.makeSlice t x y) (hs:s.ok) (h:Rc E s t (s.val x) (s.val y) κ=some z):vh E.P o s κ z:=by
 unfold Rc at h;split at h
 ·rename_i l c et hx hy ht;have h1:dT s.st x (.int .i64 l):=bY hx;have h2:dT s.st y (.int .i64 c):=bY hy;split at h
  ·rename_i ti zs u hi hz _;split at h
   ·rename_i hc;simp only [Bool.and_eq_true] at hc;have e1:=Nat.eq_of_beq_eq_true hc.1;have e2:=Nat.eq_of_beq_eq_true hc.2;split at h
    ·rename_i ds sy;split at h
     ·rename_i e he;obtain ⟨q,h⟩:=fT h;obtain ⟨q1,q2,q3,q4⟩:=UZ q;obtain ⟨z1,z2⟩:=pv hz s.H s.N;obtain ⟨c1,c2⟩:=BX sy s.H;have lX:=Q2 false (fun h=>by cases h) (P:=E.P) (N:=s.N) (e:=cz u (List.replicate (Int.toNat l) e)) ho h1 h2 ht hi z1 (by rw [bC];exact e1) c1 c2 q1 q2 q3 q4 (fun i j da mi=>by
       rw [dq _ _ _ (by omega)];simp only [cz];have:(List.replicate (Int.toNat l) e).getD i u.df=e:=by simp [List.getD,da]
       rw [this];intro w1 F1 Hz K1 v1 Ja;exact J5 sy he j (by omega) Ja)
      refine g6 (k:=1) hs h lX mZ ?_ (by simp only [TA.wf];omega) ?_ (fun l' e=>by cases e)
      ·simp only [TA.av,fv,pt,if_true,List.length_replicate];rw [e2];exact g8.refl _
      ·rw [wS _ rfl];simp only [List.length_replicate];rw [e2];exact eg.refl _
     ·cases h
    ·cases h
   ·cases h
  ·cases h
 ·cases h
def Re (E:Env) (s:bL) (t:TypeId) (x y:TA) (κ:cu→Option R):Option R:=
 match x,y,E.P.underlying t with
 | .d ⟨.int .i64,l⟩,.d ⟨.int .i64,c⟩,some (.slice et)=>match E.P.info? et,Cw E.P et,Lw E.tc et with
  | some ti,some zs,some u=>if Nat.beq zs.length ti.size&&Nat.beq ti.size (ff u) then (match si (FI u) zs with
   | some ds=>match LL u ds with
    | some e=>bE (Gf l c ti.bytes) (bE (bM 0 l) (κ ⟨.ow s.N,[(s.N,some (.row u .vs (List.replicate (Int.toNat l) e)))],1⟩))
    | none=>none
   | none=>none) else none
  | _,_,_=>none
 | _,_,_=>none
theorem U4 {E:Env} {o:Oper} {s:bL} {κ:cu→Option R} {z:R} {x y:Operand} {t:TypeId} (ho:o.op=.makeSlice t x y) (hs:s.ok) (h:Re E s t (s.val x) (s.val y) κ=some z):vh E.P o s κ z:=by
 unfold Re at h;split at h
 ·rename_i l c et hx hy ht;have h1:dT s.st x (.int .i64 l):=bY hx;have h2:dT s.st y (.int .i64 c):=bY hy;split at h
  ·rename_i ti zs u hi hz _;split at h
   ·rename_i hc;simp only [Bool.and_eq_true] at hc;have e1:=Nat.eq_of_beq_eq_true hc.1;have e2:=Nat.eq_of_beq_eq_true hc.2;split at h
    ·rename_i ds sy;split at h
     ·rename_i e he;obtain ⟨q,h⟩:=fT h;obtain ⟨q0,h⟩:=fT h;have dY:@LT.lt Int _ 0 l:=by simpa only [bM,decide_eq_true_eq] using q0
      have Jb:∀ {m:Nat},m=Int.toNat l→m≠0:=fun {m} e h0=>by
       have h2:Int.toNat l=0:=e▸h0;have h3:=Int.toNat_eq_zero.1 h2;exact absurd dY (Int.not_lt.2 h3)
      obtain ⟨q1,q2,q3,q4⟩:=UZ q;obtain ⟨z1,z2⟩:=pv hz s.H s.N;obtain ⟨c1,c2⟩:=BX sy s.H;have lX:=Q2 false (fun h=>by cases h) (P:=E.P) (N:=s.N) (e:=cz u (List.replicate (Int.toNat l) e)) ho h1 h2 ht hi z1 (by rw [bC];exact e1) c1 c2 q1 q2 q3 q4 (fun i j da mi=>by
       rw [dq _ _ _ (by omega)];simp only [cz];have:(List.replicate (Int.toNat l) e).getD i u.df=e:=by simp [List.getD,da]
       rw [this];intro w1 F1 Hz K1 v1 Ja;exact J5 sy he j (by omega) Ja)
      refine g6 (k:=1) hs h lX mZ ?_ (by simp only [TA.wf];omega) ?_ (fun l' e=>by cases e)
      ·simp only [TA.av,fv,pt,if_true,List.length_replicate];rw [e2];intro w1 F1 Hz K1 v1 Ja;have Ja:VR w1 F1 Hz K1 (.ms s.N 0 l.toNat (ff u)) v1:=Ja;show VR w1 F1 Hz K1 (.vs s.N l.toNat (ff u)) v1;cases Ja with
       | ms _ _ _ _ cap sz t' bZ hc2 hs2 fh=>
        rw [Nat.zero_mul,Nat.zero_add] at *;exact .vs _ _ _ cap sz t' (Jb rfl) bZ hc2 hs2 fh
      ·rw [wS _ rfl];simp only [List.length_replicate];rw [e2];exact ⟨fun _=>rfl,fun hB=>hB⟩
     ·cases h
    ·cases h
   ·cases h
  ·cases h
 ·cases h
def He (s:bL):List (Nat×Operand)→Option (List (Nat×List TA))
 | []=>some []
 | (i,x)::r=>match BV s.H (s.val x),He s r with
  | some l,some q=>some ((i,l)::q)
  | _,_=>none
theorem AN {s:bL} (hs:s.ok):∀ {ps:List (Nat×Operand)} {q:List (Nat×List TA)},He s ps=some q→Eb s.st ps (q.map fun p=>(p.1,di s.H p.2))∧∀ p,p∈q→hU s.H s.N p.2
 | [],q,h=>by cases h;exact ⟨.nil,fun p hp=>by cases hp⟩
 | (i,x)::r,q,h=>by
  simp only [He] at h;split at h
  ·rename_i l q' hl hq;cases h;obtain ⟨h1,h2⟩:=AN hs hq;obtain ⟨k1,k2⟩:=yf hl (fS hs x);refine ⟨.cons (gu s x) k1 h1,fun p hp=>?_⟩;rcases List.mem_cons.1 hp with e | e
   ·rw [e];exact k2
   ·exact h2 p e
  ·cases h
theorem AO {α β:Type} (f:α→β) {place:Nat→Option (Nat×Nat)}:∀ {q:List (Nat×List α)} {cs r:List α},nJ place cs q=some r→nJ place (cs.map f) (q.map fun p=>(p.1,p.2.map f))=some (r.map f)
 | [],cs,r,h=>by cases h;rfl
 | (i,l)::q,cs,r,h=>by
  simp only [nJ] at h;simp only [List.map_cons,nJ];split at h
  ·cases h
  ·rename_i off size hp;split at h
   ·rename_i hb;simp only [List.length_map,hb,if_true];rw [← S7];exact AO f h
   ·cases h
theorem EN {α:Type} {place:Nat→Option (Nat×Nat)}:∀ {q:List (Nat×List α)} {cs r:List α},nJ place cs q=some r→∀ a,a∈r→a∈cs∨∃ p,p∈q∧a∈p.2
 | [],cs,r,h,a,ha=>by cases h;exact .inl ha
 | (i,l)::q,cs,r,h,a,ha=>by
  simp only [nJ] at h;split at h
  ·cases h
  ·split at h
   ·rcases EN h a ha with k | ⟨p,k1,k2⟩
    ·rcases S8 k with k | k
     ·exact .inl k
     ·exact .inr ⟨(i,l),by simp,k⟩
    ·exact .inr ⟨p,by simp [k1],k2⟩
   ·cases h
theorem Rf {α:Type} {place:Nat→Option (Nat×Nat)}:∀ {q:List (Nat×List α)} {cs r:List α},nJ place cs q=some r→r.length=cs.length
 | [],cs,r,h=>by cases h;rfl
 | (i,l)::q,cs,r,h=>by
  simp only [nJ] at h;split at h
  ·cases h
  ·split at h
   ·rw [Rf h,vc]
   ·cases h
def LQ (P:Program) (s:bL) (t:TypeId) (ps:List (Nat×Operand)) (κ:cu→Option R):Option R:=
 match P.underlying t with
 | some (.struct fs)=>match Cw P t,IB P fs.toList,He s ps with
  | some zs,some pl,some q=>match nJ (fun i=>pl[i]?) zs q with
   | some r=>κ ⟨.agg r,[],0⟩
   | none=>none
  | _,_,_=>none
 | _=>none
theorem Nq {o:Oper} {s:bL} {κ:cu→Option R} {z:R} {t:TypeId} {ps:List (Nat×Operand)} (ho:o.op=.build t ⟨ps⟩) (hs:s.ok) (h:LQ P s t ps κ=some z):vh P o s κ z:=by
 unfold LQ at h;split at h
 ·rename_i fs ht;split at h
  ·rename_i zs pl q hz hp hq;split at h
   ·rename_i r hr;obtain ⟨z1,z2⟩:=pv hz s.H s.N;obtain ⟨p1,p2⟩:=AN hs hq;have hf:=AO (TA.av s.H) hr;have e:(q.map fun p=>(p.1,p.2.map (TA.av s.H)))=q.map fun p=>(p.1,di s.H p.2):=List.map_congr_left fun p _=>by rw [cW]
    rw [e] at hf;have lX:=ZJ (P:=P) ho ht z1 hp p1 (r:=di s.H r) (by rw [cW,cW];exact hf);refine sj h (by simpa only [TA.av] using lX) ?_;simp only [TA.wf];refine cZ.2 fun a ha=>?_;rcases EN hr a ha with k | ⟨p,k1,k2⟩
    ·exact cZ.1 z2 a k
    ·exact cZ.1 (p2 p k1) a k2
   ·cases h
  ·cases h
 ·cases h
def abG (t:Ty):Nat→List TA→Option (List t.dn)
 | 0,_=>some []
 | n+1,cs=>match si (FI t) (cs.take (ff t)) with
  | some ds=>match LL t ds,abG t n (cs.drop (ff t)) with
   | some e,some r=>some (e::r)
   | _,_=>none
  | none=>none
theorem Wl {t:Ty}:∀ {n:Nat} {cs:List TA} {xs:List t.dn},abG t n cs=some xs→n*ff t≤cs.length→xs.length=n∧(∀ a,a∈cs.take (n*ff t)→Eg a≠false)∧(∀ H a,a∈di H (cs.take (n*ff t))→One a)∧
  ∀ H i j,i < n→j < ff t→g8 ((cs.getD (i*ff t+j) .top).av H) (cz t xs i j)
 | 0,cs,xs,h,_=>by
  cases h;exact ⟨rfl,by simp,by simp [di],fun H i j hi=>by omega⟩
 | n+1,cs,xs,h,hl=>by
  simp only [abG] at h;split at h
  ·rename_i ds sy;split at h
   ·rename_i e r he hr;cases h;rw [Nat.add_mul,Nat.one_mul] at hl ⊢;obtain ⟨h1,h2,h3,h4⟩:=Wl hr (by simp;omega);have hsp:cs.take (n*ff t+ff t)=cs.take (ff t)++(cs.drop (ff t)).take (n*ff t):=by
     rw [Nat.add_comm,List.take_add]
    refine ⟨by simp [h1],fun a ha=>?_,fun H a ha=>?_,fun H i j hi hj=>?_⟩
    ·rw [hsp] at ha;rcases List.mem_append.1 ha with k | k
     ·exact uv sy a k
     ·exact h2 a k
    ·rw [hsp,cW,List.map_append,← cW,← cW] at ha;rcases List.mem_append.1 ha with k | k
     ·exact (BX sy H).2 a k
     ·exact h3 H a k
    ·cases i with
     | zero=>
      simp only [Nat.zero_mul,Nat.zero_add,cz];have OG:j < (cs.take (ff t)).length:=by simp;omega
      have e2:(cs.take (ff t)).getD j .top=cs.getD j .top:=by simp [List.getD,List.getElem?_take,hj]
      rw [← e2];intro w1 F1 Hz K1 v1 Ja;exact J5 sy he j OG Ja
     | succ i=>
      have e2:(cs.drop (ff t)).getD (i*ff t+j) .top=cs.getD ((i+1)*ff t+j) .top:=by
       simp only [List.getD,List.getElem?_drop]
       congr 2
       rw [Nat.add_mul,Nat.one_mul];omega
      rw [← e2];intro w1 F1 Hz K1 v1 Ja;exact h4 H i j (by omega) hj Ja
   ·cases h
  ·cases h
def EO (E:Env) (s:bL) (t:TypeId) (n:Nat) (ps:List (Nat×Operand)) (κ:cu→Option R):Option R:=
 match E.P.underlying t with
 | some (.slice et)=>match E.P.info? et,Cw E.P et,He s ps with
  | some ti,some zs,some q=>match nJ (fun i=>some (i*ti.size,ti.size)) ((List.range n).flatMap fun _=>zs) q with
   | some r=>if ((Nat.beq zs.length ti.size&&!Nat.beq ti.size 0)&&(n*ti.size).ble 16777216)&&Nat.beq r.length (n*ti.size) then
     (match Lw E.tc et with
     | some u=>if Nat.beq (ff u) ti.size then (match abG u n r with
      | some xs=>κ ⟨.ow s.N,[(s.N,some (.row u .ms xs))],1⟩
      | none=>none) else none
     | none=>κ ⟨.bs s.N n ti.size,[(s.N,some (.box r))],1⟩) else none
   | none=>none
  | _,_,_=>none
 | _=>none
theorem IJ {E:Env} {o:Oper} {s:bL} {κ:cu→Option R} {z:R} {t:TypeId} {n:Nat} {ps:List (Nat×Operand)} (ho:o.op=.buildSlice t n ⟨ps⟩) (hs:s.ok) (h:EO E s t n ps κ=some z):vh E.P o s κ z:=by
 unfold EO at h;split at h
 ·rename_i et ht;split at h
  ·rename_i ti zs q hi hz hq;split at h
   ·rename_i r hr;split at h
    ·rename_i hb;simp only [Bool.and_eq_true,Bool.not_eq_true'] at hb;have e1:=Nat.eq_of_beq_eq_true hb.1.1.1;have e2:=Nat.ne_of_beq_eq_false hb.1.1.2;have e3:=Nat.le_of_ble_eq_true hb.1.2;have e4:=Nat.eq_of_beq_eq_true hb.2;obtain ⟨z1,z2⟩:=pv hz s.H s.N;obtain ⟨p1,p2⟩:=AN hs hq;have hf:=AO (TA.av s.H) hr;have e:(q.map fun p=>(p.1,p.2.map (TA.av s.H)))=q.map fun p=>(p.1,di s.H p.2):=List.map_congr_left fun p _=>by rw [cW]
     have e5:((List.range n).flatMap fun _=>zs).map (TA.av s.H)=(List.range n).flatMap fun _=>di s.H zs:=by rw [List.map_flatMap,cW]
     rw [e,e5,← cW] at hf;have hwr:hU s.H s.N r:=cZ.2 fun a ha=>by
      rcases EN hr a ha with k | ⟨p,k1,k2⟩
      ·obtain ⟨_,_,k⟩:=List.mem_flatMap.1 k;exact cZ.1 z2 a k
      ·exact cZ.1 (p2 p k1) a k2
     split at h
     ·rename_i u _;split at h
      ·rename_i e6;have e6:=Nat.eq_of_beq_eq_true e6;split at h
       ·rename_i xs hxs;obtain ⟨b1,b2,b3,b4⟩:=Wl hxs (by rw [e6];omega);have etk:r.take (n*ff u)=r:=List.take_of_length_le (by rw [e6];omega);rw [etk] at b2 b3;have lX:=OO (P:=E.P) (N:=s.N) (e:=cz u xs) ho ht hi z1 (by rw [bC];exact e1) e2 e3 p1 hf
         (fun b ck=>by
          rw [cW] at ck;obtain ⟨a,ha,rfl⟩:=List.mem_map.1 ck;cases S_:Eg a with
          | true=>exact yg S_
          | false=>exact absurd S_ (b2 a ha)) (b3 s.H)
         (fun i j da mi=>by
          have h4:(i+1)*ti.size≤n*ti.size:=Nat.mul_le_mul_right _ da;rw [Nat.add_mul,Nat.one_mul] at h4;rw [dq _ _ _ (by omega)];rw [← e6];intro w1 F1 Hz K1 v1 Ja;exact b4 s.H i j da (by omega) Ja)
        refine g6 (k:=1) hs h lX mZ ?_ (by simp only [TA.wf];omega) ?_ (fun l' e=>by cases e)
        ·simp only [TA.av,fv,pt,if_true,b1,e6];exact g8.refl _
        ·rw [wS _ rfl];simp only [b1,e6];exact eg.refl _
       ·cases h
      ·cases h
     ·have lX:=IC (P:=E.P) (N:=s.N) ho ht hi z1 (by rw [bC];exact e1) e2 e3 p1 hf;exact g6 (k:=1) hs h lX mZ (by simp only [TA.av];exact g8.refl _) (by simp only [TA.wf]) (II (N:=s.N) mZ hwr) (fun l' e=>by cases e;exact hwr)
    ·cases h
   ·cases h
  ·cases h
 ·cases h
theorem U5 {t:Ty} (xs ys:List t.dn) (i j:Nat):cz t (xs++ys) i j=if i < xs.length then cz t xs i j else cz t ys (i-xs.length) j:=by
 simp only [cz,List.getD];split
 ·rename_i h;rw [List.getElem?_append_left h]
 ·rename_i h;rw [List.getElem?_append_right (Nat.le_of_not_lt h)]
def ZX (H:List (Nat×aX)) (t:Ty):TA→Option (List t.dn)
 | .d ⟨.sl u,ys⟩=>if h:u=t then some (h▸(ys:List u.dn)) else none
 | .fb=>some []
 | .ow id=>match aS H id with
  | some (.row u v ys)=>match v.d with
   | true=>none
   | false=>if h:u=t then some (h▸ys) else none
  | _=>none
 | _=>none
theorem Rg {s:bL} {t:Ty} {y:Operand} {ys:List t.dn} (h:ZX s.H t (s.val y)=some ys) (h0:ff t≠0):Src P s.st y (ff t) ys.length (cz t ys) []:=by
 unfold ZX at h;split at h
 ·rename_i u zs hy;split at h
  ·rename_i e;subst e;cases h;exact adV h0 (@bY s y _ hy)
  ·cases h
 ·rename_i hy;cases h;have h1:=@bY s y _ hy;simp only [TA.av] at h1;exact ZK h0 h1 _
 ·rename_i id hy;split at h
  ·rename_i u v zs hb;split at h
   ·cases h
   ·rename_i hv;split at h
    ·rename_i e;subst e;cases h;have h1:=@bY s y _ hy;simp only [TA.av,fv,hb] at h1;exact abp h0 h1 (by rw [dx hb,wS _ hv]) fun i j _ _=>KT _ _ _
    ·cases h
  ·cases h
 ·cases h
def Wm (H:List (Nat×aX)):TA→Bool
 | .ow id=>match aS H id with
  | some (.row _ v _)=>v.d
  | _=>false
 | _=>false
def ad2 (H:List (Nat×aX)) (t:Ty) (a:TA):Option (List t.dn×List Nat):=
 match Wm H a with
 | true=>match a with
  | .ow id=>match aS H id with
   | some (.row u _ ys)=>if h:u=t then some (h▸ys,[id]) else none
   | _=>none
  | _=>none
 | false=>match ZX H t a with
  | some ys=>some (ys,[])
  | none=>none
theorem abH {s:bL} {t:Ty} {y:Operand} {ys:List t.dn} {L:List Nat} (h:ad2 s.H t (s.val y)=some (ys,L)) (h0:ff t≠0) {v:RV} (hv:v.d=Wm s.H (s.val y)):Src P s.st y (ff t) ys.length (bV v t ys) L:=by
 unfold ad2 at h;split at h
 ·rename_i hd;split at h
  ·rename_i id hy;split at h
   ·rename_i u v' zs hb;split at h
    ·rename_i e;subst e;cases h;have h1:=@bY s y _ hy;simp only [TA.av,fv,hb] at h1;have Iw:v'.d=true:=by rw [hy] at hd;simpa only [Wm,hb] using hd
     have e:bV v u zs=bV v' u zs:=by funext i j;simp only [bV,hv,hd,Iw]
     rw [e];exact V8 h0 h1 (dx hb)
    ·cases h
   ·cases h
  ·cases h
 ·rename_i hd;split at h
  ·rename_i zs hz;cases h;have e:bV v t ys=cz t ys:=by funext i j;simp only [bV,hv,hd]
   rw [e];exact Rg hz h0
  ·cases h
def ad3 (H:List (Nat×aX)) (d:Bool) (t:Ty):TA→Option (RV×List t.dn×List Nat)
 | .fb=>match d with
  | true=>some (.dv,[],[])
  | false=>some (.vs,[],[])
 | .ow id=>match aS H id with
  | some (.row u v xs)=>match v.d,d with
   | true,true=>if h:u=t then some (v,h▸xs,[id]) else none
   | false,false=>if h:u=t then some (v,h▸xs,[id]) else none
   | _,_=>none
  | _=>none
 | _=>none
theorem abI {s:bL} {d:Bool} {t:Ty} {x:Operand} {v:RV} {xs:List t.dn} {D:List Nat} (h:ad3 s.H d t (s.val x)=some (v,xs,D)):Dst s.st x (ff t) v.b xs.length (bV v t xs) D∧v.d=d:=by
 unfold ad3 at h;split at h
 ·rename_i hx;have h1:=@bY s x _ hx;simp only [TA.av] at h1;cases d<;>cases h<;>exact ⟨.fb _ h1,rfl⟩
 ·rename_i id hx;split at h
  ·rename_i u v' zs hb;have h1:=@bY s x _ hx;simp only [TA.av,fv,hb] at h1;split at h
   ·rename_i hv;split at h
    ·rename_i e;subst e;cases h;exact ⟨.own _ _ _ _ h1 (dx hb),hv⟩
    ·cases h
   ·rename_i hv;split at h
    ·rename_i e;subst e;cases h;exact ⟨.own _ _ _ _ h1 (dx hb),hv⟩
    ·cases h
   ·cases h
  ·cases h
 ·cases h
theorem U6 {v:RV} {t:Ty} (xs ys:List t.dn) (i j:Nat):bV v t (xs++ys) i j=if i < xs.length then bV v t xs i j else bV v t ys (i-xs.length) j:=by
 simp only [bV,U5];split<;>split<;>rfl
def Nr (E:Env) (s:bL) (x y:TA) (t u:TypeId) (κ:cu→Option R):Option R:=
 match E.P.underlying t,E.P.underlying u with
 | some (.slice et),some (.slice _)=>match E.P.info? et,Lw E.tc et with
  | some ti,some q=>match ti.zero with
   | some z=>if ((!Nat.beq ti.size 0&&Nat.beq z.cells.size ti.size)&&ti.bytes.ble 4294967296)&&Nat.beq ti.size (ff q) then (match ad3 s.H (Wm s.H y) q x,ad2 s.H q y with
    | some (v,xs,D),some (ys,L)=>if D.all fun i=>!(L.any fun j=>Nat.beq i j) then bE (kW (xs.length+ys.length) ti.bytes) (κ ⟨.ow s.N,(s.N,some (.row q v (xs++ys)))::(D++L).map fun i=>(i,none),1⟩) else none
    | _,_=>none) else none
   | none=>none
  | _,_=>none
 | _,_=>none
theorem Ta {E:Env} {o:Oper} {s:bL} {κ:cu→Option R} {z:R} {x y:Operand} {t u:TypeId} (ho:o.op=.call ⟨.builtin .append,#[x,y],#[t,u]⟩) (hs:s.ok) (h:Nr E s (s.val x) (s.val y) t u κ=some z):vh E.P o s κ z:=by
 unfold Nr at h;split at h
 ·rename_i et eu ht hu;split at h
  ·rename_i ti q hi _;split at h
   ·rename_i z' hz;split at h
    ·rename_i hc;simp only [Bool.and_eq_true,Bool.not_eq_true'] at hc;have e0:=Nat.ne_of_beq_eq_false hc.1.1.1;have e1:=Nat.eq_of_beq_eq_true hc.1.1.2;have e2:=Nat.le_of_ble_eq_true hc.1.2;have e3:=Nat.eq_of_beq_eq_true hc.2;split at h
     ·rename_i v xs D ys L hd fJ;split at h
      ·rename_i ahe;obtain ⟨qb,h⟩:=fT h;obtain ⟨b1,b2⟩:=abz qb;obtain ⟨Nf,hdv⟩:=abI hd;have H3:=abH (P:=E.P) fJ (by omega) hdv;rw [← e3] at Nf H3;have lX:=XL (P:=E.P) (N:=s.N) (e':=bV v q (xs++ys)) ho ht hu hi hz e0 e1 Nf H3 (fun id h1 h2=>by
        have:=List.all_eq_true.1 ahe id h1;simp only [Bool.not_eq_true',List.any_eq_false] at this;exact this id h2 (by simp)) b1 b2 e2 (fun i j _ _=>U6 xs ys i j)
       have sub:Sub s.H (cA s.H ((s.N,some (.row q v (xs++ys)))::(D++L).map fun i=>(i,none))) s.N:=wK fun h=>absurd h (by omega);refine ⟨⟨.ow s.N,(s.N,some (.row q v (xs++ys)))::(D++L).map fun i=>(i,none),1⟩,Q5 (k:=1) hs lX sub ?_ ?_,⟨sub,by simp only [TA.wf];omega,fun id l hl=>?_⟩,h⟩
       ·simp only [TA.av,fv,cA,aS,Nat.beq_refl,List.length_append];rw [e3];exact g8.refl _
       ·simp only [aX.du,List.length_append];rw [e3];exact eg.refl _
       ·simp only [List.mem_cons,Prod.mk.injEq,Option.some.injEq,List.mem_map] at hl;rcases hl with ⟨_,h⟩ | ⟨_,_,_,h⟩
        ·rw [h];simp only [aX.refs,hU]
        ·cases h
      ·cases h
     ·cases h
    ·cases h
   ·cases h
  ·cases h
 ·cases h
def leq (m n:Nat):Bool:=Nat.beq m n
def U7 (E:Env) (s:bL) (x y:TA) (t:TypeId) (κ:cu→Option R):Option R:=
 match E.P.underlying t,x with
 | some (.slice et),.ow id=>match E.P.info? et,aS s.H id with
  | some ti,some (.row q v xs)=>if (!Nat.beq ti.size 0&&Nat.beq ti.size (ff q))&&!v.d then (match ZX s.H q y with
   | some ys=>bE (leq ys.length xs.length) (κ ⟨.d ⟨.int .i64,(xs.length:Int)⟩,[(id,some (.row q v ys))],0⟩)
   | none=>none) else none
  | _,_=>none
 | _,_=>none
theorem XX {E:Env} {o:Oper} {s:bL} {κ:cu→Option R} {z:R} {x y:Operand} {t u:TypeId} (ho:o.op=.call ⟨.builtin .copy,#[x,y],#[t,u]⟩) (hs:s.ok) (h:U7 E s (s.val x) (s.val y) t κ=some z):vh E.P o s κ z:=by
 unfold U7 at h;split at h
 ·rename_i et id ht hx;split at h
  ·rename_i ti q v xs hi hb;split at h
   ·rename_i hc;simp only [Bool.and_eq_true,Bool.not_eq_true'] at hc;have hvd:=hc.2;have hc:=hc.1;have e0:=Nat.ne_of_beq_eq_false hc.1;have e1:=Nat.eq_of_beq_eq_true hc.2;split at h
    ·rename_i ys fJ;obtain ⟨qb,h⟩:=fT h;have el:ys.length=xs.length:=Nat.eq_of_beq_eq_true qb;have H3:=Rg (P:=E.P) fJ (by omega);have h1:=@bY s x _ hx;simp only [TA.av,fv,hb] at h1;rw [← e1] at h1 H3;rw [el] at H3;have lX:=abq (P:=E.P) (v:=v.b) (id:=id) (e:=cz q xs) ho ht hi e0 h1 (by rw [dx hb,wS _ hvd];simp only [e1]) H3 (fun i j _ _=>KT _ _ _);refine g6 (k:=0) hs h lX (Wi hb el.symm) (by simp only [TA.av,cL];exact g8.refl _) (by simp only [TA.wf]) ?_ (fun l' e=>by cases e);rw [wS _ hvd];simp only [el,e1];exact eg.refl _
    ·cases h
   ·cases h
  ·cases h
 ·cases h
def ZY (P:Program) (H:List (Nat×aX)) (x:TA) (t:TypeId) (κ:cu→Option R):Option R:=
 match P.underlying t with
 | some d=>match x with
  | .d ⟨.str,m⟩=>if QY d then κ ⟨.d ⟨.int .i64,((List.length (α:=UInt8) m:Nat):Int)⟩,[],0⟩ else none
  | .d ⟨.sl u,xs⟩=>if G9 d then κ ⟨.d ⟨.int .i64,((List.length (α:=u.dn) xs:Nat):Int)⟩,[],0⟩ else none
  | .fb=>if G9 d then κ ⟨.d ⟨.int .i64,(0:Int)⟩,[],0⟩ else none
  | .ow id=>match aS H id with
   | some (.row _ _ xs)=>if G9 d then κ ⟨.d ⟨.int .i64,((xs.length:Nat):Int)⟩,[],0⟩ else none
   | some (.de _ _ xs _ _)=>if G9 d then κ ⟨.d ⟨.int .i64,((xs.length:Nat):Int)⟩,[],0⟩ else none
   | _=>none
  | .bs _ n _=>if G9 d then κ ⟨.d ⟨.int .i64,((n:Nat):Int)⟩,[],0⟩ else none
  | _=>none
 | none=>none
theorem ZZ {o:Oper} {s:bL} {κ:cu→Option R} {z:R} {x:Operand} {t:TypeId} (ho:o.op=.call ⟨.builtin .len,#[x],#[t]⟩) (h:ZY P s.H (s.val x) t κ=some z):vh P o s κ z:=by
 unfold ZY at h;split at h
 ·rename_i d ht;split at h
  ·rename_i m hx;split at h
   ·rename_i hd;have h1:dT s.st x (.str m):=bY hx;exact nM h (UN ho h1 ht hd)
   ·cases h
  ·rename_i u xs hx;split at h
   ·rename_i hd;have h1:=@bY s x _ hx;exact nM h (M3 ho h1 rfl ht hd)
   ·cases h
  ·rename_i hx;split at h
   ·rename_i hd;have h1:=@bY s x _ hx;simp only [TA.av] at h1;exact nM h (M3 (n:=0) ho h1 rfl ht hd)
   ·cases h
  ·rename_i id hx;split at h
   ·rename_i u v xs hb;split at h
    ·rename_i hd;have h1:=@bY s x _ hx;simp only [TA.av,fv,hb] at h1;exact nM h (M3 (n:=xs.length) ho h1 (by cases v<;>rfl) ht hd)
    ·cases h
   ·rename_i u v xs _ _ hb;split at h
    ·rename_i hd;have h1:=@bY s x _ hx;simp only [TA.av,fv,hb] at h1;exact nM h (M3 (n:=xs.length) ho h1 (by cases v<;>rfl) ht hd)
    ·cases h
   ·cases h
  ·rename_i id n bB hx;split at h
   ·rename_i hd;have h1:=@bY s x _ hx;simp only [TA.av] at h1;exact nM h (M3 (n:=n) ho h1 rfl ht hd)
   ·cases h
  ·cases h
 ·cases h
def XY (s:bL) (d:Int):Option Operand→Option Int
 | none=>some d
 | some x=>match s.val x with
  | .d ⟨.int _,i⟩=>some i
  | _=>none
theorem LR {s:bL} {d i:Int} {x:Option Operand} (h:XY s d x=some i):Bnd s.st d x i:=by
 unfold XY at h;split at h
 ·cases h;exact .inl ⟨rfl,rfl⟩
 ·rename_i y;split at h
  ·rename_i k j hy;cases h;exact .inr ⟨y,k,rfl,bY hy⟩
  ·cases h
theorem Z0 {bB n m:Nat} {e f:Nat→Nat→AV} (hn:n=m) (h:∀ i j,i < n→e i j=f i j):g8 (.fs bB n e) (.fs bB m f):=by
 subst hn;intro w F μ K v hv;cases hv with
 | fs _ _ _ b o cap uu hF hc' hu hv=>exact .fs _ _ _ b o cap uu hF hc' hu fun i j hi hj=>h i j hi▸hv i j hi hj
 | u_=>exact .u_ _ _ _ _
theorem abJ (u:Ty) (xs:List u.dn) (l h:Int) (e3:h≤xs.length):g8 (.fs (ff u) (h.toNat-l.toNat) fun i j=>cz u xs (l.toNat+i) j) (cL ⟨.sl u,OM xs l h⟩):=by
 refine Z0 ?_ fun i j hi=>?_
 ·show _=(OM xs l h).length;simp only [OM,List.length_drop,List.length_take];omega
 ·show cz u xs (l.toNat+i) j=cz u (OM xs l h) i j;simp only [cz,OM,List.getD,List.getElem?_drop,List.getElem?_take];rw [if_pos (by omega)]
def Rh (P:Program) (s:bL) (t:TypeId) (x:TA) (lo hi:Option Operand) (κ:cu→Option R):Option R:=
 match x,P.underlying t with
 | .d ⟨.str,m⟩,some .string=>match XY s 0 lo,XY s (List.length (α:=UInt8) m:Nat) hi with
  | some l,some h=>bE (aby l h (List.length (α:=UInt8) m)) (κ ⟨.d ⟨.str,OM (α:=UInt8) m l h⟩,[],0⟩)
  | _,_=>none
 | .d ⟨.sl u,xs⟩,some (.slice et)=>match P.info? et,XY s 0 lo,XY s (List.length (α:=u.dn) xs:Nat) hi with
  | some ti,some l,some h=>if Nat.beq ti.size (ff u) then bE (aby l h (List.length (α:=u.dn) xs)) (κ ⟨.d ⟨.sl u,OM (α:=u.dn) xs l h⟩,[],0⟩) else none
  | _,_,_=>none
 | _,_=>none
theorem U8 {o:Oper} {s:bL} {κ:cu→Option R} {z:R} {x:Operand} {t:TypeId} {lo hi:Option Operand} (ho:o.op=.slice t x lo hi none) (h:Rh P s t (s.val x) lo hi κ=some z):vh P o s κ z:=by
 unfold Rh at h;split at h
 ·rename_i m hx ht;split at h
  ·rename_i l h' hl hh;obtain ⟨e,h⟩:=fT h;obtain ⟨e1,e2,e3⟩:=We e;have h1:dT s.st x (.str m):=bY hx;exact nM h (SS ho h1 ht (LR hl) (LR hh) e1 e2 e3)
  ·cases h
 ·rename_i u xs et hx ht;split at h
  ·rename_i ti l h' da hl hh;split at h
   ·rename_i he;have he:=Nat.eq_of_beq_eq_true he;obtain ⟨e,h⟩:=fT h;obtain ⟨e1,e2,e3⟩:=We e;have h1:dT s.st x (.fs (ff u) (List.length (α:=u.dn) xs) (cz u xs)):=@bY s x _ hx;have lX:=UO (P:=P) ho h1 ht da he (LR hl) (LR hh) e1 e2 e3;refine kh h lX ?_ (by simp only [TA.wf]);simp only [TA.av];exact abJ u xs l h' e3
   ·cases h
  ·cases h
 ·cases h
def Z1 (s:bL) (fn:Fn) (xs ys:List Operand) (κ:cu→Option R):Option R:=κ ⟨.fn fn (xs.map s.val) (ys.map s.val),[],0⟩
theorem AP (s:bL):∀ xs:List Operand,OK s.st xs (di s.H (xs.map s.val))
 | []=>by simp only [List.map_nil,di];exact OK.nil
 | x::r=>by simp only [List.map_cons,di];exact OK.cons (gu s x) (AP s r)
theorem Wn {s:bL} (hs:s.ok) (xs:List Operand):hU s.H s.N (xs.map s.val):=cZ.2 fun a ha=>by
 obtain ⟨x,_,rfl⟩:=List.mem_map.1 ha;exact fS hs x
theorem XZ {o:Oper} {s:bL} {κ:cu→Option R} {z:R} {fn:Fn} {xs ys:List Operand} (ho:o.op=.makeFunc fn ⟨xs⟩ ⟨ys⟩) (hs:s.ok) (h:Z1 s fn xs ys κ=some z):vh P o s κ z:=
 sj h (by simp only [TA.av];exact SK ho (AP s xs) (AP s ys)) (by simp only [TA.wf];exact ⟨Wn hs xs,Wn hs ys⟩)
def Ri (P:Program) (t:TypeId) (x:TA) (κ:cu→Option R):Option R:=
 match P.underlying t with
 | some d=>if UM d then none else κ ⟨.oR t x,[],0⟩
 | none=>none
theorem U9 {o:Oper} {s:bL} {κ:cu→Option R} {z:R} {x:Operand} {t:TypeId} (ho:o.op=.makeInterface t x) (hs:s.ok) (h:Ri P t (s.val x) κ=some z):vh P o s κ z:=by
 unfold Ri at h;split at h
 ·rename_i d hd;split at h
  ·cases h
  ·rename_i hi;exact sj h (by simp only [TA.av];exact JY ho (gu s x) hd (by simpa using hi)) (by simp only [TA.wf];exact fS hs x)
 ·cases h
def ev0 (E:Env) (o:Oper) (s:bL) (κ:cu→Option R):Option R:=
 match o.op with
 | .move x | .assign x=>κ ⟨s.val x,[],0⟩
 | .pick c x y=>U0 (s.val c) (s.val x) (s.val y) κ
 | .extract x i=>J4 (s.val x) i κ
 | .unOp op _ x=>ad1 op (s.val x) κ
 | .binOp op t x y _=>ZS E.P op t (s.val x) (s.val y) κ
 | .convert t u x=>Q8 E.P t u (s.val x) κ
 | .index t x y=>LN E.P t (s.val x) (s.val y) κ
 | .fieldAddr t x k=>Ef E.P s.H t (s.val x) k κ
 | .nilCheck x=>Hb s.H (s.val x) κ
 | .indexAddr t x y=>U1 E.P s.H t (s.val x) (s.val y) κ
 | .load t x=>Q_ E.P s.H t (s.val x) κ
 | .field t x k=>Ra E.P t (s.val x) k κ
 | .box _ x=>Wj s (s.val x) κ
 | .alloc t=>LO E.P s t κ
 | .store t x y=>LP E.P s.H t (s.val x) (s.val y) κ
 | .makeSlice t x y=>Rc E s t (s.val x) (s.val y) κ
 | .build t ⟨ps⟩=>LQ E.P s t ps κ
 | .buildSlice t n ⟨ps⟩=>EO E s t n ps κ
 | .makeFunc fn ⟨xs⟩ ⟨ys⟩=>Z1 s fn xs ys κ
 | .makeInterface t x=>Ri E.P t (s.val x) κ
 | .slice t x lo hi none=>Rh E.P s t (s.val x) lo hi κ
 | .call ⟨.builtin .len,⟨[x]⟩,⟨[t]⟩⟩=>ZY E.P s.H (s.val x) t κ
 | .call ⟨.builtin .append,⟨[x,y]⟩,⟨[t,u]⟩⟩=>Nr E s (s.val x) (s.val y) t u κ
 | .call ⟨.builtin .copy,⟨[x,y]⟩,⟨[t,_]⟩⟩=>U7 E s (s.val x) (s.val y) t κ
 | _=>none
theorem ad4 {E:Env} {o:Oper} {s:bL} {κ:cu→Option R} {z:R} (hs:s.ok) (h:ev0 E o s κ=some z):vh E.P o s κ z:=by
 unfold ev0 at h;split at h
 ·rename_i x ho;exact sj h (V4 (.inl ho) (gu s x)) (fS hs x)
 ·rename_i x ho;exact sj h (V4 (.inr ho) (gu s x)) (fS hs x)
 ·rename_i ho;exact XU ho hs h
 ·rename_i ho;exact Q7 ho hs h
 ·rename_i ho;exact abE ho h
 ·rename_i ho;exact ZT ho h
 ·rename_i ho;exact PO ho h
 ·rename_i ho;exact Nj ho h
 ·rename_i ho;exact Nl ho hs h
 ·rename_i ho;exact OR ho hs h
 ·rename_i ho;exact XW ho hs h
 ·rename_i ho;exact PQ ho hs h
 ·rename_i ho;exact U3 ho hs h
 ·rename_i ho;exact S6 ho hs h
 ·rename_i ho;exact No ho hs h
 ·rename_i ho;exact Np ho hs h
 ·rename_i ho;exact PR ho hs h
 ·rename_i ho;exact Nq ho hs h
 ·rename_i ho;exact IJ ho hs h
 ·rename_i ho;exact XZ ho hs h
 ·rename_i ho;exact U9 ho hs h
 ·rename_i ho;exact U8 ho h
 ·rename_i ho;exact ZZ ho h
 ·rename_i ho;exact Ta ho hs h
 ·rename_i ho;exact XX ho hs h
 ·cases h
end Go.Proofs.YtjkbbdldmdajkaaGreatDoor.c5
