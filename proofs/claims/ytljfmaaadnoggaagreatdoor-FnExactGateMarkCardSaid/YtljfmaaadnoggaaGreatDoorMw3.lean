/- Plain words and laws. No condition. -/
import Derived.Test.YtljfmaaadnoggaaGreatDoorMw2
set_option linter.unusedSimpArgs false
set_option linter.unusedVariables false
namespace Go.Proofs.YtljfmaaadnoggaaGreatDoor.Pu
open Go Go.RowKit Go.Proofs.YtljfmaaadnoggaaGreatDoor.cU Go.Proofs.YtljfmaaadnoggaaGreatDoor.Fn
theorem Es {k:Nat} {fs:List aB} {n:Nm} (hk:4194304≤k) (hx:fs.length≤1048576) (h:n∈B8 fs):dZ k fs n=some (Oe fs n:Int):=by
 rw [JU hk hx,(KZ h).1]
theorem Px {k:Nat} {fs:List aB} {n:Nm} (hk:4194304≤k) (hx:fs.length≤1048576) (h:n∈B8 fs):fc k fs n=some (Oe fs n:Int):=by
 rw [JV hk hx,(KZ h).1]
theorem Py {fs:List aB} {vs:List Nm} {n:Nm} (hl:vs.length=fs.length) (h:n∈B8 fs):bT (Oe fs n:Int) vs.length=true:=bI (by rw [hl];exact (KZ h).2.1)
theorem VI (fs:List aB) (vs:List Nm) (n:Nm):nth ([]:List UInt8) vs (Oe fs n:Int)=lC fs vs n:=rfl
theorem K5 {kind name:Nm} {m:aD} (h1:seq m.Kind kind=true) (h2:seq m.Field name=true) (h3:seq m.cT []=false):m.cT∈mB kind name m:=by
 simp [mB,h1,h2,h3]
theorem K6 {kind name:Nm} {m:aD} (h1:seq m.Kind kind=true) (h2:seq m.Field name=true) (h3:seq m.cA []=false):m.cA∈mB kind name m:=by
 simp [mB,h1,h2,h3]
theorem mem_reads {ms:List aD} {kind name y:Nm} {i:Nat} (hi:i < ms.length) (h:y∈mB kind name ms[i]):y∈reads ms kind name:=List.mem_flatMap.2 ⟨_,dk hi,h⟩
theorem Sk {fs:List aB} {ms:List aD} {o:aA} {name:Nm} (hx:fs.length≤1048576) (hm:ms.length≤1048576) (hl:o.aN.length=fs.length) (hR:∀ y,y∈reads ms o.Kind name→y∈B8 fs) (J:List aB→List UInt8→aA→Option (List UInt8)) {k:Nat} (hk:4194304*2≤k):
  iter (ts:=fo) (R:=List UInt8) k (ea J) fs ms name o (0:Int)=opt (dec ms o.Kind (lC fs o.aN) name) some (J fs name o):=by
 exact Se (R:=Option (List UInt8)) (x:=ms) (g:=fun _ m=>K3 o.Kind name (lC fs o.aN) m) (B:=4194304) (l:=fun k i=>iter (ts:=fo) (R:=List UInt8) k (ea J) fs ms name o i) (E:=J fs name o) (O:=some)
  (fun k=>by simp only [iter,ea,cm,cond_false]<;>rfl)
  (fun k i hi hb=>by
   simp only [iter,ea,share,cf hi,bI hi,cond_true,bL,bJ hi,bO hm hi,K3]
   cases h1:seq ms[i].Kind o.Kind with
   | false=>rfl
   | true=>
    cases h2:seq ms[i].Field name with
    | false=>rfl
    | true=>
     have hw:=fun h3=>hR _ (mem_reads hi (K5 h1 h2 h3))
     have hf:=fun h3=>hR _ (mem_reads hi (K6 h1 h2 h3))
     have from_:∀ X:Option (List UInt8),(cond (seq ms[i].cA []) (some ms[i].rN) ((dZ k fs ms[i].cA).bind fun v=>bC (bT v o.aN.length) (cond (!seq (nth ([]:List UInt8) o.aN v) []) (some (nth ([]:List UInt8) o.aN v)) X)))
       = opt (cond (seq ms[i].cA []) (some ms[i].rN) (cond (seq (lC fs o.aN ms[i].cA) []) none (some (lC fs o.aN ms[i].cA)))) some X:=fun X=>by
      cases h3:seq ms[i].cA [] with
      | true=>rfl
      | false=>
       rw [Es hb hx (hf h3)]
       simp only [Option.bind_some,cond_false,Py hl (hf h3),bL,VI]
       cases seq (lC fs o.aN ms[i].cA) []<;>rfl
     cases h3:seq ms[i].cT [] with
     | true=>
      simp only [Bool.not_true,cond_false,Bool.true_and,Bool.true_or,cond_true]
      exact from_ (iter (ts:=fo) (R:=List UInt8) k (ea J) fs ms name o ((i+1:Nat):Int))
     | false=>
      rw [Es hb hx (hw h3)]
      simp only [Option.bind_some,Bool.not_true,Bool.not_false,cond_true,cond_false,Py hl (hw h3),bL,VI,Bool.true_and,Bool.false_or]
      cases seq (lC fs o.aN ms[i].cT) ms[i].Is with
      | false=>rfl
      | true=>exact from_ (iter (ts:=fo) (R:=List UInt8) k (ea J) fs ms name o ((i+1:Nat):Int))) k (by omega)
theorem Sl {k:Nat} {fs:List aB} {ms:List aD} {o:aA} {name:Nm} (hk:4194304*2≤k) (hx:fs.length≤1048576) (hm:ms.length≤1048576) (hl:o.aN.length=fs.length) (hn:name∈B8 fs) (hR:∀ y,y∈reads ms o.Kind name→y∈B8 fs):
  qO k fs ms o name=some ((dec ms o.Kind (lC fs o.aN) name).getD (lC fs o.aN name)):=by
 unfold qO
 simp only [share]
 rw [Sk hx hm hl hR _ hk]
 cases dec ms o.Kind (lC fs o.aN) name with
 | some c=>rfl
 | none=>
  simp only [Es (show 4194304≤k by omega) hx hn,Option.bind_some,Py hl hn,bL,VI]
  rfl
theorem YL {k:Nat} {ms:List aD} {s:aC} (hk:4194304*4≤k) (hm:ms.length≤1048576) (hs:s.aT.length≤1048576):vX k s ms=some (sK ms s):=by
 unfold vX
 simp only [share]
 have inner:∀ (J:List aD→Int→aC→List Nm→Option (List Nm)) (n:Int) (row:List Nm) (k:Nat),4194304*3≤k→row.length≤1048576→
   iter (ts:=ph) (R:=List (List UInt8)) k (kW J) ms n (0:Int) s row=J ms n s (xE ms s row):=by
  intro J n row k hk hr
  have h:=El (x:=s.aT) (p:=B6 ms s row) (B:=8388608) (l:=fun k i=>iter (ts:=ph) (R:=List (List UInt8)) k (kW J) ms n i s row) (E:=J ms n s row) (O:=fun f=>J ms n s (row++[f.Name]))
   (fun k=>by simp only [iter,kW,cm,cond_false]<;>rfl)
   (fun k i hi hb=>by
    simp only [iter,kW,share,cf hi,bI hi,cond_true,bL,bJ hi,bO hs hi,LU (show 4194304≤k by omega) hr,Pl hb hm hr,Option.bind_some,B6]
    rw [sH (by simp;omega) (by omega)]
    have e1:(row.any fun y=>seq y s.aT[i].Name)=A5 row s.aT[i].Name:=rfl
    rw [e1]
    cases A5 row s.aT[i].Name<;>cases MK ms s.Kind s.aT[i].Name row<;>rfl) k (by omega)
  refine h.trans ?_
  unfold xE
  cases s.aT.find? (B6 ms s row)<;>rfl
 have h:=fL (S:=List Nm) (x:=s.aT) (f:=fun row _=>xE ms s row) (B:=4194304*3) (l:=fun k row i=>iter (ts:=w8) (R:=List (List UInt8)) k (oS fun v=>some v) ms i s row) (J:=fun row=>some row) (fun i row=>row.length≤i)
  (fun k row _=>by simp only [iter,oS,cm,cond_false]<;>rfl)
  (fun k i row hi hb hI=>⟨by
   simp only [iter,oS,share,cf hi,cond_true]
   refine (inner _ _ _ _ hb (by omega)).trans ?_
   rw [bO hs hi],Nat.le_trans (Pm ms s row) (by omega)⟩) k [] (by omega) (by simp)
 exact h
theorem Qw {k:Nat} {xs:List aC} {ms:List aD} {o:aA} (hk:4194304*4≤k) (hx:xs.length≤1048576) (ho:LD o) (Du:fM xs ms=true):tb k xs ms o=some (K4 xs ms o):=by
 unfold tb K4
 rw [Pt ho]
 simp only [Option.bind_some,ny (show 4194304≤k by omega) hx,share,ct,En (show 4194304≤k by omega) hx,Eo]
 rcases eZ (fun s:aC=>seq s.Kind o.Kind) xs with ⟨h1,h2⟩ | ⟨j,hj,h1,h2,h3⟩
 ·rw [h1,h2];rfl
 ·rw [h1,h2]
  simp only
  cases he:bM (xs[j].aT.length:Int) (o.aN.length:Int) with
  | false=>rfl
  | true=>
   have hl:o.aN.length=xs[j].aT.length:=by simp only [bM,beq_iff_eq] at he;omega
   obtain ⟨k1,k2,k3,k4,k5⟩:=FY Du (dk hj)
   have YM:=dQ.1 h3
   rw [YM] at k3 k4
   have Yf:xs[j].aT.length≤1048576:=by omega
   have Yc:ms.length≤1048576:=by omega
   simp only [cond_true,Option.isSome_some,Option.getD_some,Bool.not_true,cond_false,bI hj,bL,bJ hj,YL hk Yc Yf,Option.bind_some]
   have hrl:(sK ms xs[j]).length≤1048576:=by
    have:=k3.LC.nd.length_le_of_subset k3.sub
    simp only [B8,List.length_map] at this;omega
   exact fL (S:=List Nm) (x:=sK ms xs[j]) (f:=B9 xs[j].aT ms o.Kind) (B:=4194304*2) (l:=fun k vs i=>iter (ts:=vD) (R:=aA) k (ni (fun (v41:aA) (v42:List UInt8) (v43:List UInt8) (v44:List UInt8) (v45:Bool) (v46:Int) (v47:List (List UInt8)) (v48:List (List UInt8))=>some (⟨v42,v43,v44,v47,v45,v48,v46⟩:aA))) ms xs[j].aT i (⟨([]:List UInt8),([]:List UInt8),([]:List UInt8),[],false,[],(0:Int)⟩:aA) o.Kind o.Name o.aX o.Ending o.Version (sK ms xs[j]) vs o.b6)
    (J:=fun vs=>some ⟨o.Kind,o.Name,o.aX,vs,o.Ending,o.b6,o.Version⟩) (fun _ vs=>vs.length=xs[j].aT.length)
    (fun k vs _=>by simp only [iter,ni,cm,cond_false]<;>rfl)
    (fun k i vs hi hb hI=>⟨by
     have hn:=k3.sub _ (dk hi)
     have hd:=Sl (o:=⟨o.Kind,o.Name,o.aX,vs,o.Ending,o.b6,o.Version⟩) hb Yf Yc hI hn (fun y hy=>k4 _ y hy)
     simp only [iter,ni,cf hi,bI hi,cond_true,bL,bJ hi,bO hrl hi,Es (show 4194304≤k by omega) Yf hn,hd,Option.bind_some,Py hI hn]
     rfl,by rw [Er];exact hI⟩) k o.aN (by omega) hl
theorem W4 (xs:List aC) (ms:List aD) (o:aA):(K4 xs ms o).aN.length=o.aN.length∧(K4 xs ms o).b6=o.b6:=by
 unfold K4
 cases xs.find? fun s=>seq s.Kind o.Kind with
 | none=>exact ⟨rfl,rfl⟩
 | some s=>
  simp only
  cases bM (s.aT.length:Int) (o.aN.length:Int) with
  | false=>exact ⟨rfl,rfl⟩
  | true=>exact ⟨xG ..,rfl⟩
theorem MP {xs:List aC} {o:aA} (h:LD o):LD (Ds xs o):=by
 have:=JX xs o
 exact ⟨by rw [this.1];exact h.1,by rw [this.2.1];exact h.2⟩
theorem Qx {k:Nat} {xs:List aC} {ms:List aD} {o:aA} (hk:4194304*4≤k) (hx:xs.length≤1048576) (ho:LD o) (Du:fM xs ms=true):td k xs ms o=some (wa xs ms o):=by
 unfold td
 rw [Qu (by omega) hx ho,Option.bind_some,Qw hk hx (MP ho) Du];rfl
theorem Qy (J:List aD→aC→List (List UInt8)→Option ((List (List UInt8))×Bool×(List aD)×aC)):∀ (k:Nat) (ys:List (List UInt8)) (n i:Int) (ms:List aD) (s:aC) (out:List (List UInt8)) (st:List cb),
  iter (ts:=oB) (R:=Bool×(List aD)×aC×(List (List UInt8))) k (lz fun a b c=>(J a b c).map fun r=>(r.2.1,r.2.2.1,r.2.2.2,r.1)) ys n i ms s out st
  = (iter (ts:=kF) (R:=(List (List UInt8))×Bool×(List aD)×aC) k (dC J) ys n i ms s out st).map fun r=>(r.2.1,r.2.2.1,r.2.2.2,r.1):=by
 intro k
 induction k with
 | zero=>intros;rfl
 | succ k ih=>
  intro ys n i ms s out st
  simp only [iter,lz,dC]
  cases bN i n with
  | false=>rfl
  | true=>
   cases bT i ys.length with
   | false=>rfl
   | true=>
    simp only [cond_true,bL]
    cases c9 k k (nth ([]:List UInt8) ys i) st ms s out with
    | none=>rfl
    | some r=>
     simp only [Option.bind_some]
     cases r.1 with
     | false=>rfl
     | true=>exact ih _ _ _ _ _ _ _
theorem Qz (k:Nat) (ys:List Nm) (ms:List aD) (s:aC):pq k ys ms s=(eW k ys ms s).map fun r=>(r.2.1,r.2.2.1,r.2.2.2,r.1):=
 Qy (fun v23 v24 v25=>some (v25,true,v23,v24)) k ys _ _ ms s _ _
theorem YN (J:aC→List aD→List (List UInt8)→Option ((List (List UInt8))×Bool)) (J2:aC→List aD→List (List UInt8)→Option (Bool×(List (List UInt8)))) (hJ:∀ a b c,J2 a b c=(J a b c).map fun r=>(r.2,r.1)):∀ (k:Nat) (fs:List aB) (n i:Int) (s:aC) (ms:List aD) (out:List (List UInt8)),
  iter (ts:=xo) (R:=Bool×(List (List UInt8))) k (uJ J2) fs n i s ms out
  = (iter (ts:=sE) (R:=(List (List UInt8))×Bool) k (ln J) fs n i s ms out).map fun r=>(r.2,r.1):=by
 intro k
 induction k with
 | zero=>intros;rfl
 | succ k ih=>
  intro fs n i s ms out
  simp only [iter,uJ,ln]
  cases bN i n with
  | false=>exact hJ _ _ _
  | true=>
   cases bT i fs.length with
   | false=>rfl
   | true=>
    simp only [cond_true,bL]
    cases uF (out.length+([(nth (default:aB) fs i).Name]:List (List UInt8)).length) 16 with
    | false=>rfl
    | true=>exact ih _ _ _ _ _ _
theorem YO (k:Nat) (s:aC) (ms:List aD):qk k s ms=(po k s ms).map fun r=>(r.2,r.1):=by
 unfold qk po
 simp only [share]
 refine YN _ _ (fun a b c=>?_) k _ _ _ _ _ _
 rw [Qz]
 cases eW k c b a<;>rfl
theorem A7 {k:Nat} {fs:List aB} {n kd nm tm:Nm} {e:Bool} {v:Int} {vs hs:List Nm} (hk:4194304≤k) (hx:fs.length≤1048576) (hl:vs.length=fs.length) (h:n∈B8 fs):cF k n kd nm tm e v fs vs hs=some (lC fs vs n,kd,nm,tm,e,v,fs,vs,hs):=by
 unfold cF
 rw [Px hk hx h]
 simp only [Option.bind_some,Py hl h,bL,VI]
theorem Uj {fs:List aB} {ms:List aD} {name kd nm tm:Nm} {e:Bool} {v:Int} {o:aA} {row vs hs:List Nm} {n j:Int} (hx:fs.length≤1048576) (hm:ms.length≤1048576) (hl:vs.length=fs.length) (hn:name∈B8 fs) (hR:∀ y,y∈reads ms kd name→y∈B8 fs)
  (J:List aD→Int→Int→List UInt8→List UInt8→List UInt8→Bool→Int→aA→List aB→List (List UInt8)→List (List UInt8)→List (List UInt8)→Option aA) {k:Nat} (hk:4194304*2≤k):
  iter (ts:=gv) (R:=aA) k (eB J) ms name n j ms (ms.length:Int) (0:Int) kd nm tm e v o fs row vs hs=J ms n j kd nm tm e v o fs row (B9 fs ms kd vs name) hs:=by
 have h:=Se (R:=Option aA) (x:=ms) (g:=fun _ m=>K3 kd name (lC fs vs) m) (B:=4194304) (l:=fun k i=>iter (ts:=gv) (R:=aA) k (eB J) ms name n j ms (ms.length:Int) i kd nm tm e v o fs row vs hs) (E:=J ms n j kd nm tm e v o fs row vs hs) (O:=fun c=>J ms n j kd nm tm e v o fs row (vs.set (Oe fs name) c) hs)
  (fun k=>by simp only [iter,eB,cm,cond_false]<;>rfl)
  (fun k i hi hb=>by
   simp only [iter,eB,share,cf hi,bI hi,cond_true,bL,bJ hi,bO hm hi,K3]
   cases h1:seq ms[i].Kind kd with
   | false=>rfl
   | true=>
    cases h2:seq ms[i].Field name with
    | false=>rfl
    | true=>
     have hw:=fun h3=>hR _ (mem_reads hi (K5 h1 h2 h3))
     have hf:=fun h3=>hR _ (mem_reads hi (K6 h1 h2 h3))
     have hp:=Px hb hx hn
     have hib:=Py hl hn
     cases h4:seq ms[i].cA [] with
     | true=>
      cases h3:seq ms[i].cT [] with
      | true=>
       simp only [Bool.not_true,cond_false,cond_true,Bool.true_and,Bool.true_or,hp,Option.bind_some,hib,bL]
       rfl
      | false=>
       simp only [Bool.not_true,Bool.not_false,cond_false,cond_true,Bool.true_and,Bool.false_or,A7 hb hx hl (hw h3),Option.bind_some,xF,bL,hp,hib]
       cases seq (lC fs vs ms[i].cT) ms[i].Is<;>rfl
     | false=>
      cases h3:seq ms[i].cT [] with
      | true=>
       simp only [Bool.not_true,Bool.not_false,cond_false,cond_true,Bool.true_and,Bool.true_or,A7 hb hx hl (hf h4),Option.bind_some,xF,bL,hp,hib]
       cases seq (lC fs vs ms[i].cA) []<;>rfl
      | false=>
       simp only [Bool.not_true,Bool.not_false,cond_false,cond_true,Bool.true_and,Bool.false_or,A7 hb hx hl (hw h3),A7 hb hx hl (hf h4),Option.bind_some,xF,bL,hp,hib]
       cases seq (lC fs vs ms[i].cT) ms[i].Is<;>cases seq (lC fs vs ms[i].cA) []<;>rfl) k (by omega)
 refine h.trans ?_
 unfold B9
 change opt (dec ms kd (lC fs vs) name) (fun c=>J ms n j kd nm tm e v o fs row (vs.set (Oe fs name) c) hs) (J ms n j kd nm tm e v o fs row vs hs)=_
 cases dec ms kd (lC fs vs) name with
 | some c=>rfl
 | none=>
  simp only [Option.getD_none,opt]
  rw [set_self hl hn]
theorem QA {k:Nat} {xs:List aC} {ms:List aD} {o:aA} (hk:4194304*7≤k) (hx:jt aC.sd xs) (hm:jt aD.sd ms) (ho:LD o):o5 k xs ms o=some (cond (fM xs ms) (K4 xs ms o) o):=by
 unfold o5
 rw [VH ho]
 simp only [Option.bind_some,KX o (show 4194304≤k by omega) hx.1,share,xF,bL,zp hk hx hm]
 cases Du:fM xs ms with
 | false=>cases (ct xs o).isSome<;>rfl
 | true=>
  simp only [K4,ct,Ep (show 4194304≤k by omega) hx.1]
  rcases eZ (fun s:aC=>seq s.Kind o.Kind) xs with ⟨h1,h2⟩ | ⟨j,hj,h1,h2,h3⟩
  ·rw [h1,h2];rfl
  ·rw [h1,h2]
   simp only
   cases he:bM (xs[j].aT.length:Int) (o.aN.length:Int) with
   | false=>rfl
   | true=>
    have hl:o.aN.length=xs[j].aT.length:=by simp only [bM,beq_iff_eq] at he;omega
    obtain ⟨k1,k2,k3,k4,k5⟩:=FY Du (dk hj)
    have YM:=dQ.1 h3
    have Yf:xs[j].aT.length≤1048576:=by omega
    have Yc:ms.length≤1048576:=by omega
    obtain ⟨b,row,r1,r2,r3⟩:=VF (ms:=ms) (s:=xs[j]) Yc (fun x _ y hy=>k4 x y hy) (fun x=>by have:=Ps (ms:=ms) (kind:=xs[j].Kind) (x:=x);omega) k2 (show 4194304*5≤k by omega)
    obtain rfl:b=true:=r3 ⟨_,k3⟩
    have hF:=r2 rfl
    simp only [cond_true,Option.isSome_some,Option.getD_some,Bool.not_true,cond_false,Option.bind_some,bI hj,bL,bJ hj,YO,r1,Option.map_some]
    rw [YM] at k3 k4 hF
    have hrl:row.length≤1048576:=by
     have:=hF.LC.nd.length_le_of_subset hF.sub
     simp only [names,List.length_map] at this;omega
    rw [← Si k1 hl hF k3]
    exact fL (S:=List Nm) (x:=row) (f:=B9 xs[j].aT ms o.Kind) (B:=4194304*2) (l:=fun k vs i=>iter (ts:=sm) (R:=aA) k (kG (fun (afJ:List UInt8) (afK:List UInt8) (afL:List UInt8) (afM:Bool) (afN:Int) (ag3:aA) (afO:List (List UInt8)) (afP:List (List UInt8))=>some (⟨afJ,afK,afL,afO,afM,afP,afN⟩:aA))) ms (row.length:Int) i o.Kind o.Name o.aX o.Ending o.Version (⟨([]:List UInt8),([]:List UInt8),([]:List UInt8),[],false,[],(0:Int)⟩:aA) xs[j].aT row vs o.b6)
     (J:=fun vs=>some ⟨o.Kind,o.Name,o.aX,vs,o.Ending,o.b6,o.Version⟩) (fun _ vs=>vs.length=xs[j].aT.length)
     (fun k vs _=>by simp only [iter,kG,cm,cond_false]<;>rfl)
     (fun k i vs hi hb hI=>⟨by
      simp only [iter,kG,share,cf hi,bI hi,cond_true]
      have hn:nth ([]:List UInt8) row (i:Int)∈B8 xs[j].aT:=by rw [bJ hi];exact hF.sub _ (dk hi)
      change iter (ts:=gv) (R:=aA) k (eB _) ms (nth [] row (i:Int)) (row.length:Int) (i:Int) ms (ms.length:Int) (0:Int) o.Kind o.Name o.aX o.Ending o.Version _ xs[j].aT row vs o.b6=_
      refine (Uj Yf Yc hI hn (fun y hy=>k4 _ y hy) _ hb).trans ?_
      simp only [bJ hi]
      rw [bO hrl hi],by rw [Er];exact hI⟩) k o.aN (by omega) hl
theorem QB {k:Nat} {xs:List aC} {ms:List aD} {o:aA} (hk:4194304*7≤k) (hx:jt aC.sd xs) (hm:jt aD.sd ms) (ho:LD o):oF k xs ms o=some (cond (fM xs ms) (wa xs ms o) o):=by
 unfold oF
 rw [zp hk hx hm,acF ho,Uh (by omega) hx ho]
 cases Du:fM xs ms with
 | false=>rfl
 | true=>
  have hs:eh xs=true:=by
   simp only [fM,Bool.and_eq_true] at Du;exact Du.1
  simp only [Option.bind_some,Bool.not_true,cond_false,hs,cond_true,QA hk hx hm (MP ho),Du]
  rfl
theorem QC {a b:Nm} (h:seq a b=true):slt a b=false:=by rw [dQ.1 h];exact LS b
def MQ (a b:List Nm):Bool:=bM (a.length:Int) (b.length:Int)&&(a.zip b).all fun q=>seq q.1 q.2
theorem A8 {α β:Type} {a:List α} {b:List β} (h:a.length≤b.length):(a.zip b).length=a.length:=by simp;omega
theorem YP {k:Nat} {a b:List Nm} (hk:4194304≤k) (ha:a.length≤1048576):nj k a b=some (MQ a b):=by
 unfold nj MQ
 cases he:bM (a.length:Int) (b.length:Int) with
 | false=>rfl
 | true=>
  have hl:a.length=b.length:=by simp only [bM,beq_iff_eq] at he;omega
  have hz:=A8 (a:=a) (b:=b) (by omega)
  have h:=gf (R:=Option Bool) (x:=a.zip b) (p:=fun q=>seq q.1 q.2) (B:=0) (l:=fun k i=>iter (ts:=qP) (R:=Bool) k (jm (some true)) a b i) (E:=some true) (O:=some false)
   (fun k=>by simp only [hz,iter,jm,cm,cond_false]<;>rfl)
   (fun k i hi _=>by
    rw [hz] at hi
    have c8:i < b.length:=by omega
    simp only [iter,jm,cf hi,bI hi,bI c8,cond_true,bL,bJ hi,bJ c8,bO ha hi,List.getElem_zip]
    cases seq a[i] b[i]<;>rfl) k (by omega)
  simp only [Bool.not_true,cond_false,share]
  refine h.trans ?_
  cases (a.zip b).all fun q=>seq q.1 q.2<;>rfl
theorem QD {k:Nat} {a b:List Nm} (hk:4194304≤k) (ha:a.length≤1048576):oG k a b=some (MQ a b):=by
 unfold oG MQ
 cases he:bM (a.length:Int) (b.length:Int) with
 | false=>rfl
 | true=>
  have hl:a.length=b.length:=by simp only [bM,beq_iff_eq] at he;omega
  have hz:=A8 (a:=a) (b:=b) (by omega)
  have h:=gf (R:=Option Bool) (x:=a.zip b) (p:=fun q=>seq q.1 q.2) (B:=0) (l:=fun k i=>iter (ts:=sn) (R:=Bool) k (kH (some true)) a b (a.length:Int) i) (E:=some true) (O:=some false)
   (fun k=>by simp only [hz,iter,kH,cm,cond_false]<;>rfl)
   (fun k i hi _=>by
    rw [hz] at hi
    have c8:i < b.length:=by omega
    simp only [iter,kH,cf hi,bI hi,bI c8,cond_true,bL,bJ hi,bJ c8,bO ha hi,List.getElem_zip]
    cases seq a[i] b[i]<;>rfl) k (by omega)
  simp only [Bool.not_true,cond_false,share]
  refine h.trans ?_
  cases (a.zip b).all fun q=>seq q.1 q.2<;>rfl
def uq (a b c d:Nm):Bool:=slt a c||(seq a c&&slt b d)
def Sm (a b:Nm):Int:=cond (slt a b) (-1) (cond (!(slt a b||seq a b)) 1 0)
theorem QE (k:Nat) (a b:Nm):pg k a b=some (Sm a b):=by
 unfold pg Sm
 cases slt a b<;>cases seq a b<;>rfl
def aaJ (a b c d:Nm):Int:=cond (!bM (Sm a c) 0) (Sm a c) (Sm b d)
theorem QF (k:Nat) (a b c d:Nm):sC k a b c d=some (aaJ a b c d):=by
 unfold sC aaJ
 rw [QE,QE]
 simp only [Option.bind_some]
 cases bM (Sm a c) 0<;>rfl
theorem QG (a b c d:Nm):b_ 0 (aaJ a b c d)=!uq a b c d:=by
 unfold aaJ uq Sm
 cases h1:slt a c<;>cases h2:seq a c<;>cases h3:slt b d<;>cases h4:seq b d<;>rfl
def atO (b:aG) (kind name:Nm):Int:=xB (fun o=>seq o.Kind kind&&seq o.Name name) b.aK 0
theorem acH {k:Nat} {b:aG} {kind name:Nm} (hk:4194304≤k) (hb:b.aK.length≤1048576):Ek k b kind name=some (atO b kind name):=by
 unfold Ek
 simp only [share]
 exact pX (x:=b.aK) (p:=fun o=>seq o.Kind kind&&seq o.Name name) (l:=fun k i=>iter (ts:=BO) (R:=Int) k (vY (some (-1))) kind name b i)
  (fun k=>by simp only [iter,vY,cm,cond_false]<;>rfl)
  (fun k i hi=>by
   simp only [iter,vY,share,cf hi,bI hi,cond_true,bL,bJ hi,bO hb hi]
   cases seq b.aK[i].Kind kind<;>rfl) k (by omega)
theorem acI {k:Nat} {b:aG} {kind name:Nm} (hk:4194304≤k) (hb:b.aK.length≤1048576):j8 k b kind name=some (atO b kind name):=by
 unfold j8
 simp only [share]
 exact pX (x:=b.aK) (p:=fun o=>seq o.Kind kind&&seq o.Name name) (l:=fun k i=>iter (ts:=n_) (R:=Int) k (gS (some (-1))) kind name b.aK (b.aK.length:Int) i)
  (fun k=>by simp only [iter,gS,cm,cond_false]<;>rfl)
  (fun k i hi=>by
   simp only [iter,gS,share,cf hi,bI hi,cond_true,bL,bJ hi,bO hb hi]
   cases seq b.aK[i].Kind kind<;>rfl) k (by omega)
def Sn (b:aG) (q:aB×Nm):Bool:=!(bM q.1.Kind 4&&(!seq q.2 []&&bN (atO b q.1.To q.2) 0))
def Et (b:aG) (fs:List aB) (vs:List Nm):Bool:=(fs.zip vs).all (Sn b)
theorem So {w:aL} {b:aG} {n:Int} {fs:List aB} {o:aA} (hb:b.aK.length≤1048576) (hl:fs.length≤o.aN.length) (hv:o.aN.length≤1048576) (J:aL→aG→Int→Option Bool) {k:Nat} (hk:4194304*2≤k):
  iter (ts:=fJ) (R:=Bool) k (dP J) w b n fs (0:Int) o=cond (Et b fs o.aN) (J w b n) (some false):=by
 have hz:=A8 hl
 exact gf (R:=Option Bool) (x:=fs.zip o.aN) (p:=Sn b) (B:=4194304) (l:=fun k i=>iter (ts:=fJ) (R:=Bool) k (dP J) w b n fs i o) (E:=J w b n) (O:=some false)
  (fun k=>by simp only [hz,iter,dP,cm,cond_false]<;>rfl)
  (fun k i hi cd=>by
   rw [hz] at hi
   have c8:i < o.aN.length:=by omega
   simp only [iter,dP,share,cf hi,bI hi,bI c8,cond_true,bL,bJ hi,bJ c8,bO (show fs.length≤1048576 by omega) hi,acH cd hb,Option.bind_some,List.getElem_zip,Sn]
   cases bM fs[i].Kind 4 with
   | false=>rfl
   | true=>
    cases seq o.aN[i] [] with
    | true=>rfl
    | false=>cases bN (atO b fs[i].To o.aN[i]) 0<;>rfl) k (by rw [hz];omega)
def uM:List (aB×Nm)→Nat→List (Int×(aB×Unit))
 | [],_=>[]
 | q::r,i=>cond (bM q.1.Kind 4&&!seq q.2 []) (((i:Int),q.1,())::uM r (i+1)) (uM r (i+1))
theorem aaK {fs:List aB} {o:aA} (hl:fs.length≤o.aN.length) (hv:o.aN.length≤1048576):∀ m i k,i+m=fs.length→m+1≤k→
  iter (ts:=uk) (R:=List (Int×(aB×Unit))) k l6 o fs (fs.length:Int) (i:Int)=some (uM ((fs.zip o.aN).drop i) i):=by
 have hz:=A8 hl
 intro m
 induction m with
 | zero=>
  intro i k h1 h2
  obtain rfl:i=fs.length:=by omega
  obtain ⟨k,rfl⟩:∃ j,k=j+1:=⟨k-1,by omega⟩
  rw [List.drop_of_length_le (by omega)]
  simp only [iter,l6,cm,cond_false,uM]<;>rfl
 | succ m ih=>
  intro i k h1 h2
  obtain ⟨k,rfl⟩:∃ j,k=j+1:=⟨k-1,by omega⟩
  have hi:i < fs.length:=by omega
  have c8:i < o.aN.length:=by omega
  rw [List.drop_eq_getElem_cons (show i < (fs.zip o.aN).length by omega),List.getElem_zip]
  have ih':=ih (i+1) k (by omega) (by omega)
  simp only [iter,l6,cf hi,bI hi,bI c8,cond_true,bL,bJ hi,bJ c8,bO (show fs.length≤1048576 by omega) hi,ih',uM]
  cases bM fs[i].Kind 4<;>cases seq o.aN[i] []<;>rfl
theorem VJ {k:Nat} {w:aL} {o:aA} (hk:4194304≤k) (hw:w.bX.length≤1048576) (hv:o.aN.length≤1048576):gG k w o=some (uM (((ct w.bX o).getD []).zip o.aN) 0):=by
 unfold gG
 rw [v9 hk hw]
 simp only [Option.bind_some]
 cases hf:ct w.bX o with
 | none=>rfl
 | some fs=>
  have hl:=(iL hf).1
  have h:=aaK (fs:=fs) (o:=o) (by omega) hv fs.length 0 k (by omega) (by omega)
  rw [List.drop_zero] at h
  exact h
theorem K7 {b:aG} {w:aL} {os:List aA} {n j:Int} {e:Bool} {o:aA} {k:Nat} (hk:4194304≤k) (hb:b.aK.length≤1048576) (D:aG→aL→List aA→Int→Int→Bool→aA→Option Bool):∀ (z:List (aB×Nm)) (i:Nat),(∀ t (h:t < z.length),∃ h':i+t < o.aN.length,o.aN[i+t]=z[t].2)→
  BE (ts:=cX) (R:=Bool) (cH k) D (uM z i) b w os n j e o=cond (z.all (Sn b)) (D b w os n j e o) (some false)
 | [],_,_=>rfl
 | q::r,i,h=>by
  have ih:=K7 (o:=o) (b:=b) (w:=w) (os:=os) (n:=n) (j:=j) (e:=e) hk hb D r (i+1) fun t ht=>by
   obtain ⟨h1,h2⟩:=h (t+1) (by simpa using ht)
   exact ⟨by omega,by simpa [show i+1+t=i+(t+1) by omega] using h2⟩
  obtain ⟨h1,h2⟩:=h 0 (by simp)
  simp only [Nat.add_zero,List.getElem_cons_zero] at h1 h2
  simp only [uM,List.all_cons]
  have hq:Sn b q=!(bM q.1.Kind 4&&(!seq q.2 []&&bN (atO b q.1.To q.2) 0)):=rfl
  rw [hq]
  cases c1:bM q.1.Kind 4 with
  | false=>exact ih
  | true=>
   cases c2:seq q.2 [] with
   | true=>exact ih
   | false=>
    simp only [Bool.not_false,Bool.and_self,cond_true,Bool.true_and]
    change cH k ((i:Int),q.1,()) (BE (ts:=cX) (R:=Bool) (cH k) D (uM r (i+1))) b w os n j e o=_
    unfold cH
    simp only [bI h1,bL,bJ h1,h2,acI hk hb,Option.bind_some]
    cases bN (atO b q.1.To q.2) 0 with
    | true=>rfl
    | false=>exact ih
def YQ (q:Option aA) (o:aA):Bool:=match q with
 | none=>true
 | some p=>uq p.Kind p.Name o.Kind o.Name
def Uk (w:aL) (b:aG) (q:Option aA) (o:aA):Bool:=
 (bM (v_ w.bX o).1 0&&((iK w.dS o.aX).isSome&&(b_ 1 o.Version&&b_ o.Version b.Ei)))&&(YQ q o&&(MQ (wa w.bX w.gH o).aN o.aN&&Et b ((ct w.bX o).getD []) o.aN))
def nz (w:aL) (b:aG):Bool:=b_ (b.aK.length:Int) 40&&chain (Uk w b) none b.aK
theorem MR (xs:List aC) (ms:List aD) (o:aA):(wa xs ms o).aN.length=o.aN.length:=by
 unfold wa
 rw [(W4 ..).1,(JX ..).1]
theorem K8 (xs:List aC) (o:aA):((ct xs o).getD []).length≤o.aN.length:=by
 cases hf:ct xs o with
 | none=>simp
 | some fs=>have:=(iL hf).1;simp;omega
theorem OE {k:Nat} {w:aL} {b:aG} (hk:4194304*10≤k) (hw:w.sd) (hb:b.sd) (Du:fM w.bX w.gH=true):nk k w b=some (nz w b):=by
 obtain ⟨-,-,-,Pz,-⟩:=hb
 unfold nk nz
 have h:=eY (R:=Option Bool) (x:=b.aK) (p:=Uk w b) (B:=4194304*8) (l:=fun k i=>iter (ts:=ec) (R:=Bool) k (dB (some true)) w b i) (E:=some true) (O:=some false)
  (fun k=>by simp only [iter,dB,cm,cond_false]<;>rfl)
  (fun k i hi cd=>by
   have Yg:=Pz.2 _ (dk hi)
   have hle:=Ic Yg
   have hsl:=MR w.bX w.gH b.aK[i]
   have hlk:=fun (n:Int) (J:aL→aG→Int→Option Bool)=>So (w:=w) (b:=b) (n:=n) (o:=b.aK[i]) Pz.1 (K8 w.bX b.aK[i]) hle.1 J (show 4194304*2≤k by omega)
   simp only [iter,dB,share,cf hi,bI hi,cond_true,bL,bJ hi,OC (show 4194304*4≤k by omega) hw.1 Yg,My (show 4194304≤k by omega) hw.2.2.1,Mw,Qx (show 4194304*4≤k by omega) hw.1.1 hle Du,YP (show 4194304≤k by omega) (show (wa w.bX w.gH b.aK[i]).aN.length≤1048576 by rw [hsl];exact hle.1),ny (show 4194304≤k by omega) hw.1.1,Option.bind_some,bO Pz.1 hi,Uk]
   have tail:∀ c:Bool,cond (!c) (some false) (iter (ts:=fJ) (R:=Bool) k (dP fun acJ acK acL=>iter (ts:=ec) (R:=Bool) k (dB (some true)) acJ acK (aQ .i64 acL (1:Int))) w b (i:Int) ((ct w.bX b.aK[i]).getD []) (0:Int) b.aK[i])
     = cond (c&&Et b ((ct w.bX b.aK[i]).getD []) b.aK[i].aN) (iter (ts:=ec) (R:=Bool) k (dB (some true)) w b ((i+1:Nat):Int)) (some false):=fun c=>by
    have:=hlk (i:Int) fun acJ acK acL=>iter (ts:=ec) (R:=Bool) k (dB (some true)) acJ acK (aQ .i64 acL (1:Int))
    rw [bO Pz.1 hi] at this
    cases c with
    | false=>rfl
    | true=>exact this.trans (by cases Et b ((ct w.bX b.aK[i]).getD []) b.aK[i].aN<;>rfl)
   cases bM (v_ w.bX b.aK[i]).1 0 with
   | false=>rfl
   | true=>
    cases (iK w.dS b.aK[i].aX).isSome with
    | false=>rfl
    | true=>
     cases b_ 1 b.aK[i].Version&&b_ b.aK[i].Version b.Ei with
     | false=>rfl
     | true=>
      rcases Nat.eq_zero_or_pos i with rfl | h0
      ·simp only [rm,kL,YQ,Bool.true_and]
       exact tail _
      ·have c8:i-1 < b.aK.length:=by omega
       simp only [yX h0,pt h0 (show i≤1048576 by have:=Pz.1;omega),bI c8,cond_true,bL,bJ c8,kM h0 hi,YQ,QF,Option.bind_some,QG,Bool.true_and]
       cases uq b.aK[i-1].Kind b.aK[i-1].Name b.aK[i].Kind b.aK[i].Name with
       | false=>rfl
       | true=>exact tail _) k (by have:=Pz.1;omega)
 simp only [share,cJ]
 cases b_ (b.aK.length:Int) 40 with
 | false=>rfl
 | true=>exact h.trans (by cases chain (Uk w b) none b.aK<;>rfl)
theorem W5 {xs:List aC} {o:aA} (h:eh xs=true):Qt xs o=v_ xs o:=by
 unfold Qt v_
 rw [h,Bool.true_and]
theorem PA (x:List aH) (n:Nm):bN (xB (fun t:aH=>seq t.Name n) x 0) 0=!(iK x n).isSome:=by
 unfold iK
 rcases eZ (fun t:aH=>seq t.Name n) x with ⟨k1,k2⟩ | ⟨q,hq,k1,k2,_⟩
 ·rw [k1,k2];rfl
 ·rw [k1,k2,fq (by omega)];rfl
theorem YR {fs:List aB} {vs:List Nm}:∀ t (h:t < (fs.zip vs).length),∃ h':0+t < vs.length,vs[0+t]=(fs.zip vs)[t].2:=fun t h=>by
 have h2:t < vs.length:=by simp at h;omega
 exact ⟨by omega,by simp⟩
theorem OF {k:Nat} {w:aL} {b:aG} (hk:4194304*12≤k) (hw:w.sd) (hb:b.sd) (Du:fM w.bX w.gH=true):fA k b w=some (nz w b):=by
 obtain ⟨-,-,-,Pz,-⟩:=hb
 have rO:eh w.bX=true:=by simp only [fM,Bool.and_eq_true] at Du;exact Du.1
 unfold fA nz
 have h:=eY (R:=Option Bool) (x:=b.aK) (p:=Uk w b) (B:=4194304*10) (l:=fun k i=>iter (ts:=cM) (R:=Bool) k (cB fun _=>some true) b w b.aK (b.aK.length:Int) i false) (E:=some true) (O:=some false)
  (fun k=>by simp only [iter,cB,cm,cond_false]<;>rfl)
  (fun k i hi cd=>by
   have Yg:=Pz.2 _ (dk hi)
   have hle:=Ic Yg
   have hsl:=MR w.bX w.gH b.aK[i]
   have tail:∀ c:Bool,cond (!c) (some false) ((pa k w b.aK[i]).bind fun YS=>(gG k YS.1 YS.2).bind fun YT=>BE (ts:=cX) (R:=Bool) (cH k) (fun (acM:aG) (acN:aL) (acO:List aA) (acP:Int) (acQ:Int) (acR:Bool) (YT:aA)=>iter (ts:=cM) (R:=Bool) k (cB fun _=>some true) acM acN acO acP (aQ .i64 acQ (1:Int)) acR) YT b w b.aK (b.aK.length:Int) (i:Int) false b.aK[i])
     = cond (c&&Et b ((ct w.bX b.aK[i]).getD []) b.aK[i].aN) (iter (ts:=cM) (R:=Bool) k (cB fun _=>some true) b w b.aK (b.aK.length:Int) ((i+1:Nat):Int) false) (some false):=fun c=>by
    cases c with
    | false=>rfl
    | true=>
     unfold pa
     simp only [Bool.not_true,cond_false,Option.bind_some,VJ (show 4194304≤k by omega) hw.1.1 hle.1,Bool.true_and]
     refine (K7 (show 4194304≤k by omega) Pz.1 _ _ 0 YR).trans ?_
     rw [bO Pz.1 hi];rfl
   simp only [iter,cB,share,cf hi,bI hi,cond_true,bL,bJ hi,R_ (show 4194304*6≤k by omega) hw.1 Yg,W5 rO,Aj (show 4194304≤k by omega) hw.2.2.1,PA,QB (show 4194304*7≤k by omega) hw.1 hw.2.1 hle,Du,QD (show 4194304≤k by omega) (show (wa w.bX w.gH b.aK[i]).aN.length≤1048576 by rw [hsl];exact hle.1),Option.bind_some,Uk,cJ b.aK[i].Version,cJ b.Ei]
   have YU:∀ c1:Bool,cond (!c1) (some false) (cond (!(iK w.dS b.aK[i].aX).isSome) (some false) (cond (!b_ 1 b.aK[i].Version) (some false) (cond (!b_ b.aK[i].Version b.Ei) (some false) (cond (!MQ (wa w.bX w.gH b.aK[i]).aN b.aK[i].aN) (some false) ((pa k w b.aK[i]).bind fun YS=>(gG k YS.1 YS.2).bind fun YT=>BE (ts:=cX) (R:=Bool) (cH k) (fun (acM:aG) (acN:aL) (acO:List aA) (acP:Int) (acQ:Int) (acR:Bool) (YT:aA)=>iter (ts:=cM) (R:=Bool) k (cB fun _=>some true) acM acN acO acP (aQ .i64 acQ (1:Int)) acR) YT b w b.aK (b.aK.length:Int) (i:Int) false b.aK[i])))))
     = cond ((c1&&((iK w.dS b.aK[i].aX).isSome&&(b_ 1 b.aK[i].Version&&b_ b.aK[i].Version b.Ei)))&&(MQ (wa w.bX w.gH b.aK[i]).aN b.aK[i].aN&&Et b ((ct w.bX b.aK[i]).getD []) b.aK[i].aN)) (iter (ts:=cM) (R:=Bool) k (cB fun _=>some true) b w b.aK (b.aK.length:Int) ((i+1:Nat):Int) false) (some false):=fun c1=>by
    rw [tail]
    cases c1<;>cases (iK w.dS b.aK[i].aX).isSome<;>cases b_ 1 b.aK[i].Version<;>cases b_ b.aK[i].Version b.Ei<;>rfl
   rcases Nat.eq_zero_or_pos i with rfl | h0
   ·simp only [rm,kL,YQ,Bool.true_and]
    refine Eq.trans ?_ (YU _)
    cases bM (v_ w.bX b.aK[0]).1 0 with
    | false=>rfl
    | true=>cases (iK w.dS b.aK[0].aX).isSome<;>cases b_ 1 b.aK[0].Version<;>cases b_ b.aK[0].Version b.Ei<;>rfl
   ·have c8:i-1 < b.aK.length:=by omega
    simp only [yX h0,pt h0 (show i≤1048576 by have:=Pz.1;omega),bI c8,cond_true,bL,bJ c8,kM h0 hi,YQ,uq]
    cases h1:seq b.aK[i-1].Kind b.aK[i].Kind with
    | true=>
     rw [QC h1]
     cases slt b.aK[i-1].Name b.aK[i].Name with
     | false=>simp only [Bool.false_or,Bool.true_and,Bool.false_and,Bool.and_false];rfl
     | true=>
      simp only [Bool.false_or,Bool.true_and]
      refine Eq.trans ?_ (YU _)
      cases bM (v_ w.bX b.aK[i]).1 0 with
      | false=>rfl
      | true=>cases (iK w.dS b.aK[i].aX).isSome<;>cases b_ 1 b.aK[i].Version<;>cases b_ b.aK[i].Version b.Ei<;>rfl
    | false=>
     cases slt b.aK[i-1].Kind b.aK[i].Kind with
     | false=>simp only [Bool.false_or,Bool.true_and,Bool.false_and,Bool.and_false];rfl
     | true=>
      simp only [Bool.true_or,Bool.true_and]
      refine Eq.trans ?_ (YU _)
      cases bM (v_ w.bX b.aK[i]).1 0 with
      | false=>rfl
      | true=>cases (iK w.dS b.aK[i].aX).isSome<;>cases b_ 1 b.aK[i].Version<;>cases b_ b.aK[i].Version b.Ei<;>rfl) k (by have:=Pz.1;omega)
 simp only [share,cJ]
 cases b_ (b.aK.length:Int) 40 with
 | false=>rfl
 | true=>exact h.trans (by cases chain (Uk w b) none b.aK<;>rfl)
def sL (x:List aH):Nat→Nm→Nm→Bool
 | 0,a,b=>seq a b
 | m+1,a,b=>seq a b||(!seq (yY x a) []&&sL x m (yY x a) b)
theorem Sp {k:Nat} {x:List aH} {a b:Nm} (hk:4194304*2≤k) (hx:x.length≤1048576):xa k x a b=some (sL x 4 a b):=by
 have go:∀ (m j k:Nat) (a:Nm),j+m=4→4194304+m+1≤k→cond (seq a b) (some true) (iter (ts:=ug) (R:=Bool) k (lY (some false)) x a b (j:Int))=some (sL x m a b):=by
  intro m
  induction m with
  | zero=>
   intro j k a h hk
   obtain rfl:j=4:=by omega
   obtain ⟨k,rfl⟩:∃ q,k=q+1:=⟨k-1,by omega⟩
   simp only [iter,lY,sL,fq (show ¬ ((4:Nat):Int) < (4:Int) by omega)]
   cases seq a b<;>rfl
  | succ m ih=>
   intro j k a h hk
   obtain ⟨k,rfl⟩:∃ q,k=q+1:=⟨k-1,by omega⟩
   have h1:=ih (j+1) k (yY x a) (by omega) (by omega)
   simp only [iter,lY,sL,mw (show ((j:Nat):Int) < (4:Int) by omega),cond_true,R3 (show 4194304≤k by omega) hx,Option.bind_some,bO (n:=4) (by omega) (show j < 4 by omega)]
   cases seq a b with
   | true=>rfl
   | false=>
    cases seq (yY x a) [] with
    | true=>rfl
    | false=>exact h1
 exact go 4 0 k a (by omega) (by omega)
theorem Sq {k:Nat} {x:List aH} {a b:Nm} (hk:4194304*2≤k) (hx:x.length≤1048576):wz k x a b=some (sL x 4 a b):=by
 have go:∀ (m j k:Nat) (a:Nm),j+m=4→4194304+m+1≤k→iter (ts:=tB) (R:=Bool) k (lF (some true)) x a b (j:Int)=some (sL x m a b):=by
  intro m
  induction m with
  | zero=>
   intro j k a h hk
   obtain rfl:j=4:=by omega
   obtain ⟨k,rfl⟩:∃ q,k=q+1:=⟨k-1,by omega⟩
   simp only [iter,lF,share,sL,Aj (show 4194304≤k by omega) hx,Option.bind_some,show bM ((4:Nat):Int) 4=true from rfl]
   cases seq a b<;>rfl
  | succ m ih=>
   intro j k a h hk
   obtain ⟨k,rfl⟩:∃ q,k=q+1:=⟨k-1,by omega⟩
   have hj:bM (j:Int) 4=false:=by simp only [bM,beq_eq_false_iff_ne];omega
   have h1:=ih (j+1) k (yY x a) (by omega) (by omega)
   simp only [iter,lF,share,sL,Aj (show 4194304≤k by omega) hx,Option.bind_some,hj]
   cases seq a b with
   | true=>rfl
   | false=>
    simp only [Bool.not_false,cond_true,cond_false,Bool.false_or]
    rcases eZ (fun t:aH=>seq t.Name a) x with ⟨k1,k2⟩ | ⟨q,hq,k1,k2,_⟩
    ·have e:yY x a=[]:=by simp only [yY,iK,k2]
     rw [k1,e];rfl
    ·have e:yY x a=x[q].gC:=by simp only [yY,iK,k2]
     rw [k1,fq (by omega),bI hq,bJ hq,e]
     rw [e] at h1
     simp only [cond_false,bL]
     cases seq x[q].gC [] with
     | true=>rfl
     | false=>
      simp only [cond_false,bO (n:=4) (by omega) (show j < 4 by omega)]
      exact h1
 exact go 4 0 k a (by omega) (by omega)
def YV (q:Option aI) (g:aI):Bool:=match q with
 | none=>true
 | some p=>!b_ g.Number p.Number
def A9 (b:aG) (q:Option aI) (g:aI):Bool:=(b_ 1 g.Number&&b_ g.Number b.jX)&&(YV q g&&(cD g.To&&(A4 g.By&&zn g.cL)))
def xH (b:aG):Bool:=b_ (b.bV.length:Int) 24&&chain (A9 b) none b.bV
theorem QH {k:Nat} {b:aG} (hk:4194304*3≤k) (hb:b.sd):oT k b=some (xH b):=by
 obtain ⟨-,-,-,-,hg,-⟩:=hb
 unfold oT xH
 have h:=eY (R:=Option Bool) (x:=b.bV) (p:=A9 b) (B:=4194304*2) (l:=fun k i=>iter (ts:=sf) (R:=Bool) k (kz (some true)) b i) (E:=some true) (O:=some false)
  (fun k=>by simp only [iter,kz,cm,cond_false]<;>rfl)
  (fun k i hi cd=>by
   obtain ⟨-,g1,g2,g3⟩:=hg.2 _ (dk hi)
   simp only [iter,kz,share,cf hi,bI hi,cond_true,bL,bJ hi,Mw,eg (show 4194304≤k by omega) g1,eg (show 4194304≤k by omega) g2,Qp (show 4194304*2≤k by omega) g3,Option.bind_some,bO hg.1 hi,A9,A4]
   rcases Nat.eq_zero_or_pos i with rfl | h0
   ·simp only [rm,kL,YV]
    cases b_ 1 b.bV[0].Number&&b_ b.bV[0].Number b.jX<;>cases cD b.bV[0].To<;>cases seq b.bV[0].By []<;>cases cD b.bV[0].By<;>cases zn b.bV[0].cL<;>rfl
   ·have c8:i-1 < b.bV.length:=by omega
    simp only [yX h0,pt h0 (show i≤1048576 by have:=hg.1;omega),bI c8,cond_true,bL,bJ c8,kM h0 hi,YV]
    cases b_ 1 b.bV[i].Number&&b_ b.bV[i].Number b.jX<;>cases b_ b.bV[i].Number b.bV[i-1].Number<;>cases cD b.bV[i].To<;>cases seq b.bV[i].By []<;>cases cD b.bV[i].By<;>cases zn b.bV[i].cL<;>rfl) k (by have:=hg.1;omega)
 simp only [share,cJ]
 cases b_ (b.bV.length:Int) 24 with
 | false=>rfl
 | true=>exact h.trans (by cases chain (A9 b) none b.bV<;>rfl)
theorem QI {k:Nat} {b:aG} (hk:4194304*3≤k) (hb:b.sd):gi k b=some (xH b):=by
 obtain ⟨-,-,-,-,hg,-⟩:=hb
 unfold gi xH
 have h:=eY (R:=Option Bool) (x:=b.bV) (p:=A9 b) (B:=4194304*2) (l:=fun k i=>iter (ts:=kP) (R:=Bool) k (eJ (some true)) b b.bV (b.bV.length:Int) i) (E:=some true) (O:=some false)
  (fun k=>by simp only [iter,eJ,cm,cond_false]<;>rfl)
  (fun k i hi cd=>by
   obtain ⟨-,g1,g2,g3⟩:=hg.2 _ (dk hi)
   simp only [iter,eJ,share,cf hi,bI hi,cond_true,bL,bJ hi,gg (show 4194304≤k by omega) g1,gg (show 4194304≤k by omega) g2,Qq (show 4194304*2≤k by omega) g3,Option.bind_some,bO hg.1 hi,A9,A4]
   rw [cJ b.bV[i].Number,cJ b.jX]
   rcases Nat.eq_zero_or_pos i with rfl | h0
   ·simp only [rm,kL,YV]
    cases b_ 1 b.bV[0].Number<;>cases b_ b.bV[0].Number b.jX<;>cases cD b.bV[0].To<;>cases seq b.bV[0].By []<;>cases cD b.bV[0].By<;>cases zn b.bV[0].cL<;>rfl
   ·have c8:i-1 < b.bV.length:=by omega
    simp only [yX h0,pt h0 (show i≤1048576 by have:=hg.1;omega),bI c8,cond_true,bL,bJ c8,kM h0 hi,YV]
    cases b_ 1 b.bV[i].Number<;>cases b_ b.bV[i].Number b.jX<;>cases b_ b.bV[i].Number b.bV[i-1].Number<;>cases cD b.bV[i].To<;>cases seq b.bV[i].By []<;>cases cD b.bV[i].By<;>cases zn b.bV[i].cL<;>rfl) k (by have:=hg.1;omega)
 simp only [share,cJ]
 cases b_ (b.bV.length:Int) 24 with
 | false=>rfl
 | true=>exact h.trans (by cases chain (A9 b) none b.bV<;>rfl)
def Dv (res:Nm) (q:aB×Nm):Int:=cond (bM q.1.Kind 1&&seq q.1.aY res) ((num q.2).getD 0) 0
theorem A_ (res:Nm) (q:aB×Nm):0≤Dv res q∧Dv res q < 10000000:=by
 unfold Dv
 cases bM q.1.Kind 1&&seq q.1.aY res with
 | false=>simp only [cond_false];exact ⟨by decide,by decide⟩
 | true=>
  cases hn:num q.2 with
  | none=>exact ⟨by decide,by decide⟩
  | some v=>exact Em hn
def uN (w:aL) (o:aA) (res:Nm):Int:=cond ((ct w.bX o).isSome&&!seq res []) ((((ct w.bX o).getD []).zip o.aN).foldl (fun s q=>s+Dv res q) (cond (seq res o.Kind) 1 0)) 0
theorem MS {α:Type} {f:α→Int} {M:Int} (hf:∀ a,0≤f a∧f a < M):∀ (l:List α) (s:Int),0≤s→0≤l.foldl (fun s q=>s+f q) s∧l.foldl (fun s q=>s+f q) s≤s+M*(l.length:Int)
 | [],s,h=>by simp [h]
 | a::r,s,h=>by
  have:=MS hf r (s+f a) (by have:=hf a;omega)
  have h2:=hf a
  have e:M*((a::r).length:Int)=M*(r.length:Int)+M:=by rw [List.length_cons];push_cast;rw [Int.mul_add,Int.mul_one]
  rw [List.foldl_cons,e]
  omega
theorem Ba {w:aL} {o:aA} {res:Nm} (ho:o.aN.length≤1048576):0≤uN w o res∧uN w o res≤10485760000001:=by
 unfold uN
 cases (ct w.bX o).isSome&&!seq res [] with
 | false=>simp only [cond_false];exact ⟨by decide,by decide⟩
 | true=>
  have h:=MS (A_ res) (((ct w.bX o).getD []).zip o.aN) (cond (seq res o.Kind) 1 0) (by cases seq res o.Kind<;>decide)
  have hl:(((ct w.bX o).getD []).zip o.aN).length≤1048576:=by simp;omega
  have hc:(cond (seq res o.Kind) 1 0:Int)≤1:=by cases seq res o.Kind<;>decide
  simp only [cond_true]
  omega
theorem QJ {k:Nat} {w:aL} {o:aA} {res:Nm} (hk:4194304*2≤k) (hw:w.bX.length≤1048576) (ho:o.aN.length≤1048576):oV k w o res=some (uN w o res):=by
 unfold oV uN
 rw [ny (by omega) hw]
 simp only [Option.bind_some,share]
 cases hf:ct w.bX o with
 | none=>rfl
 | some fs=>
  have hl:=(iL hf).1
  have hz:=A8 (a:=fs) (b:=o.aN) (by omega)
  simp only [Option.isSome_some,Option.getD_some,Bool.not_true,Bool.true_and,cond_false]
  cases hr:seq res [] with
  | true=>rfl
  | false=>
   have h:=fun n0:Int=>fun (h0:0≤n0∧n0≤1)=>fL (S:=Int) (x:=fs.zip o.aN) (f:=fun s q=>s+Dv res q) (B:=4194304) (l:=fun k s i=>iter (ts:=sg) (R:=Int) k (kA fun v=>some v) res o fs s i) (J:=fun s=>some s) (fun i s=>0≤s∧s≤1+10000000*(i:Int))
    (fun k s _=>by simp only [hz,iter,kA,cm,cond_false]<;>rfl)
    (fun k i s hi hb hI=>by
     rw [hz] at hi
     have c8:i < o.aN.length:=by omega
     have hw1:=A_ res (fs[i],o.aN[i])
     refine ⟨?_,by rw [List.getElem_zip];push_cast;omega⟩
     simp only [iter,kA,share,cf hi,bI hi,bI c8,cond_true,bL,bJ hi,bJ c8,bO (show fs.length≤1048576 by omega) hi,MD _ hb,Option.bind_some,List.getElem_zip,Dv]
     cases c1:bM fs[i].Kind 1 with
     | false=>simp only [cond_false,Bool.false_and,Int.add_zero]<;>rfl
     | true=>
      cases c2:seq fs[i].aY res with
      | false=>simp only [cond_false,cond_true,Bool.and_false,Int.add_zero]<;>rfl
      | true=>
       cases hn:num o.aN[i] with
       | none=>simp only [cond_true,Bool.and_self,Option.getD_none,Int.add_zero];rfl
       | some v=>
        have:=Em hn
        simp only [cond_true,Bool.and_self,Option.getD_some]
        by_cases hv:0 < v
        ·rw [mw hv,ss (by omega) (by omega)];rfl
        ·rw [fq hv,show v=0 by omega,Int.add_zero];rfl) k n0 (by rw [hz];omega) ⟨h0.1,by push_cast;omega⟩
   cases seq res o.Kind with
   | true=>exact h 1 ⟨by decide,by decide⟩
   | false=>exact h 0 ⟨by decide,by decide⟩
theorem QK {k:Nat} {w:aL} {o:aA} {res:Nm} (hk:4194304*2≤k) (hw:w.bX.length≤1048576) (ho:o.aN.length≤1048576):oH k w o res=some (uN w o res):=by
 unfold oH uN
 rw [v9 (by omega) hw]
 simp only [Option.bind_some,share]
 cases hf:ct w.bX o with
 | none=>rfl
 | some fs=>
  have hl:=(iL hf).1
  have hz:=A8 (a:=fs) (b:=o.aN) (by omega)
  simp only [Option.isSome_some,Option.getD_some,Bool.not_true,Bool.true_and,cond_false]
  cases hr:seq res [] with
  | true=>rfl
  | false=>
   have h:=fun n0:Int=>fun (h0:0≤n0∧n0≤1)=>fL (S:=Int) (x:=fs.zip o.aN) (f:=fun s q=>s+Dv res q) (B:=4194304) (l:=fun k s i=>iter (ts:=rT) (R:=Int) k (j_ fun v=>some v) res o s fs (fs.length:Int) i) (J:=fun s=>some s) (fun i s=>0≤s∧s≤1+10000000*(i:Int))
    (fun k s _=>by simp only [hz,iter,j_,cm,cond_false]<;>rfl)
    (fun k i s hi hb hI=>by
     rw [hz] at hi
     have c8:i < o.aN.length:=by omega
     have hw1:=A_ res (fs[i],o.aN[i])
     refine ⟨?_,by rw [List.getElem_zip];push_cast;omega⟩
     simp only [iter,j_,share,cf hi,bI hi,bI c8,cond_true,bL,bJ hi,bJ c8,bO (show fs.length≤1048576 by omega) hi,Pg _ hb,Option.bind_some,List.getElem_zip,Dv]
     cases c1:bM fs[i].Kind 1 with
     | false=>simp only [cond_false,Bool.false_and,Int.add_zero,Bool.not_false,cond_true]<;>rfl
     | true=>
      cases c2:seq fs[i].aY res with
      | false=>simp only [cond_false,cond_true,Bool.and_false,Int.add_zero,Bool.not_false,Bool.not_true]<;>rfl
      | true=>
       cases hn:num o.aN[i] with
       | none=>
        have e0:s+0=aQ .i64 s 0:=(ss (by omega) (by omega)).symm
        simp only [cond_true,Bool.and_self,Option.getD_none,e0]<;>rfl
       | some v=>
        have:=Em hn
        have e0:s+v=aQ .i64 s v:=(ss (by omega) (by omega)).symm
        simp only [cond_true,Bool.and_self,Option.getD_some,e0]<;>rfl) k n0 (by rw [hz];omega) ⟨h0.1,by push_cast;omega⟩
   cases seq res o.Kind with
   | true=>exact h 1 ⟨by decide,by decide⟩
   | false=>exact h 0 ⟨by decide,by decide⟩
def MT (w:aL) (dw res:Nm) (o:aA):Int:=cond (sL w.dS 4 o.aX dw) (uN w o res) 0
def Ak (w:aL) (b:aG) (dw res:Nm):Int:=b.aK.foldl (fun s o=>s+MT w dw res o) 0
theorem Ul {k:Nat} {w:aL} {b:aG} {dw res:Nm} (hk:4194304*3≤k) (hw:w.sd) (hb:b.sd) (hl:b.aK.length≤40):tf k w b dw res=some (Ak w b dw res):=by
 obtain ⟨-,-,-,Pz,-⟩:=hb
 unfold tf Ak
 simp only [share]
 exact fL (S:=Int) (x:=b.aK) (f:=fun s o=>s+MT w dw res o) (B:=4194304*2) (l:=fun k s i=>iter (ts:=vF) (R:=Int) k (np fun v=>some v) dw res w b s i) (J:=fun s=>some s) (fun i s=>0≤s∧s≤10485760000001*(i:Int))
  (fun k s _=>by simp only [iter,np,cm,cond_false]<;>rfl)
  (fun k i s hi hb hI=>by
   have hv:=(Pz.2 _ (dk hi)).2.2.2.1.1
   have hr:=Ba (w:=w) (res:=res) hv
   simp only [iter,np,share,cf hi,bI hi,cond_true,bL,bJ hi,bO Pz.1 hi,Sp hb hw.2.2.1,QJ hb hw.1.1 hv,Option.bind_some,MT]
   cases sL w.dS 4 b.aK[i].aX dw with
   | false=>exact ⟨by simp only [cond_false,Int.add_zero]<;>rfl,by simp only [cond_false];push_cast;omega⟩
   | true=>
    have e0:s+uN w b.aK[i] res=aQ .i64 s (uN w b.aK[i] res):=(ss (by omega) (by omega)).symm
    exact ⟨by simp only [cond_true,e0]<;>rfl,by simp only [cond_true];push_cast;omega⟩) k 0 (by omega) (by simp)
theorem Um {k:Nat} {w:aL} {b:aG} {dw res:Nm} (hk:4194304*3≤k) (hw:w.sd) (hb:b.sd) (hl:b.aK.length≤40):sW k w b dw res=some (Ak w b dw res):=by
 obtain ⟨-,-,-,Pz,-⟩:=hb
 unfold sW Ak
 simp only [share]
 exact fL (S:=Int) (x:=b.aK) (f:=fun s o=>s+MT w dw res o) (B:=4194304*2) (l:=fun k s i=>iter (ts:=uS) (R:=Int) k (mP fun v=>some v) dw res w s b.aK (b.aK.length:Int) i) (J:=fun s=>some s) (fun i s=>0≤s∧s≤10485760000001*(i:Int))
  (fun k s _=>by simp only [iter,mP,cm,cond_false]<;>rfl)
  (fun k i s hi hb hI=>by
   have hv:=(Pz.2 _ (dk hi)).2.2.2.1.1
   have hr:=Ba (w:=w) (res:=res) hv
   simp only [iter,mP,share,cf hi,bI hi,cond_true,bL,bJ hi,bO Pz.1 hi,Sq hb hw.2.2.1,QK hb hw.1.1 hv,Option.bind_some,MT]
   cases sL w.dS 4 b.aK[i].aX dw with
   | false=>exact ⟨by simp only [cond_false,Int.add_zero]<;>rfl,by simp only [cond_false];push_cast;omega⟩
   | true=>
    have e0:s+uN w b.aK[i] res=aQ .i64 s (uN w b.aK[i] res):=(ss (by omega) (by omega)).symm
    exact ⟨by simp only [cond_true,e0]<;>rfl,by simp only [cond_true];push_cast;omega⟩) k 0 (by omega) (by simp)
theorem K9 {w:aL} {b:aG} {dw res:Nm} (hb:b.sd) (hl:b.aK.length≤40):0≤Ak w b dw res∧Ak w b dw res≤419430400000040:=by
 obtain ⟨-,-,-,Pz,-⟩:=hb
 unfold Ak
 have:∀ (l:List aA) (s:Int),(∀ o,o∈l→o.aN.length≤1048576)→0≤s→0≤l.foldl (fun s o=>s+MT w dw res o) s∧l.foldl (fun s o=>s+MT w dw res o) s≤s+10485760000001*(l.length:Int):=by
  intro l
  induction l with
  | nil=>intro s _ h;simp [h]
  | cons a r ih=>
   intro s h h0
   have hr:=Ba (w:=w) (res:=res) (h a (by simp))
   have hu:0≤MT w dw res a∧MT w dw res a≤10485760000001:=by
    unfold MT
    cases sL w.dS 4 a.aX dw with
    | false=>simp only [cond_false];exact ⟨by decide,by decide⟩
    | true=>exact hr
   have:=ih (s+MT w dw res a) (fun o ho=>h o (by simp [ho])) (by omega)
   rw [List.foldl_cons,List.length_cons]
   push_cast
   omega
 have h:=this b.aK 0 (fun o ho=>(Pz.2 o ho).2.2.2.1.1) (by decide)
 omega
section
variable {α R S:Type} {x:List α} {B:Nat}
theorem K_ {p:Option α→α→Bool} {f:S→α→S} {l:Nat→S→Int→R} {E:S→R} {O:R} (he:∀ k s,l (k+1) s (x.length:Int)=E s)
  (h:∀ k i s (hi:i < x.length),B≤k→l (k+1) s (i:Int)=cond (p (ahead x i) x[i]) (l k (f s x[i]) ((i+1:Nat):Int)) O) (k:Nat) (s:S) (hk:B+x.length+1≤k):l k s 0=cond (chain p none x) (E (x.foldl f s)) O:=by
 have go:∀ m i k s,i+m=x.length→B+m+1≤k→l k s (i:Int)=cond (chain p (ahead x i) (x.drop i)) (E ((x.drop i).foldl f s)) O:=by
  intro m
  induction m with
  | zero=>
   intro i k s h1 h2
   obtain rfl:i=x.length:=by omega
   obtain ⟨k,rfl⟩:∃ j,k=j+1:=⟨k-1,by omega⟩
   simp [he,chain]
  | succ m ih=>
   intro i k s h1 h2
   obtain ⟨k,rfl⟩:∃ j,k=j+1:=⟨k-1,by omega⟩
   have hi:i < x.length:=by omega
   rw [h k i s hi (by omega),List.drop_eq_getElem_cons hi]
   have e:some x[i]=ahead x (i+1):=by simp [ahead]
   simp only [chain,e,List.foldl_cons]
   cases p (ahead x i) x[i] with
   | true=>simpa using ih (i+1) k _ (by omega) (by omega)
   | false=>rfl
 have:=go x.length 0 k s (by omega) (by omega)
 simpa [ahead] using this
end
def Dw (a b:ck):Bool:=seq a.dw b.dw&&seq a.resource b.resource
theorem Bb {a b:ck}:Dw a b=true↔a=b:=by
 cases a;cases b
 simp only [Dw,Bool.and_eq_true,dQ,ck.mk.injEq]
theorem YW (a b:ck):Dw a b=Dw b a:=by
 rw [Bool.eq_iff_iff,Bb,Bb];exact eq_comm
def Bc (a:ck) (m:List cG):Int:=l8 (fun p:cG=>Dw a p.Key) (fun p:cG=>p.Mb) (0:Int) m
def oC (a:ck) (v:Int) (m:List cG):List cG:=nV (fun p:cG=>Dw a p.Key) m ⟨a,v⟩
theorem Ih (a c:ck) (v:Int):∀ (m:List cG),Bc a (oC c v m)=cond (Dw a c) v (Bc a m)
 | []=>by
  unfold Bc oC
  rw [Mx,lq]
 | q::m=>by
  unfold Bc oC
  rw [JP]
  cases h:Dw c q.Key with
  | true=>
   have e:=Bb.1 h
   rw [cond_true,lq,lq,← e]
   cases Dw a c<;>rfl
  | false=>
   rw [cond_false,lq,lq]
   have ih:=Ih a c v m
   unfold Bc oC at ih
   rw [ih]
   cases h1:Dw a q.Key with
   | false=>rfl
   | true=>
    have e:=Bb.1 h1
    subst e
    rw [show Dw q.Key c=false by rw [YW];exact h];rfl
def JY (g:aF):ck:=⟨g.aX,g.aV⟩
def Un (q:Option aF) (g:aF):Bool:=match q with
 | none=>true
 | some p=>uq p.aX p.aV g.aX g.aV
def YX (w:aL) (g:aF):Bool:=(iK w.dS g.aX).isSome&&(cD g.aV&&(b_ 0 g.ly&&(b_ g.ly g.bW&&b_ g.bW 1000000)))
def Sr (w:aL) (q:Option aF) (g:aF):Bool:=YX w g&&Un q g
theorem YY {a b c d e f:Nm} (h1:uq a b c d=true) (h2:uq c d e f=true):uq a b e f=true:=by
 simp only [uq,Bool.or_eq_true,Bool.and_eq_true] at *
 rcases h1 with h1 | ⟨h1,h3⟩
 ·rcases h2 with h2 | ⟨h2,-⟩
  ·exact .inl (Qo h1 h2)
  ·rw [← dQ.1 h2];exact .inl h1
 ·rw [dQ.1 h1]
  rcases h2 with h2 | ⟨h2,h4⟩
  ·exact .inl h2
  ·exact .inr ⟨h2,Qo h3 h4⟩
theorem W6 (a b:Nm):uq a b a b=false:=by
 simp only [uq,LS,Bool.and_false,Bool.or_false]
theorem PB:∀ {l:List aF} {q:Option aF},chain Un q l=true→(l.map JY).Nodup∧∀ p,q=some p→∀ y,y∈l→uq p.aX p.aV y.aX y.aV=true
 | [],_,_=>⟨List.nodup_nil,fun _ _ _ h=>by cases h⟩
 | a::r,q,h=>by
  simp only [chain,Bool.and_eq_true] at h
  obtain ⟨h1,h2⟩:=h
  obtain ⟨h3,h4⟩:=PB h2
  refine ⟨List.nodup_cons.2 ⟨fun hm=>?_,h3⟩,fun p hp y hy=>?_⟩
  ·obtain ⟨y,hy,e⟩:=List.mem_map.1 hm
   have:=h4 a rfl y hy
   simp only [JY,ck.mk.injEq] at e
   rw [e.1,e.2,W6] at this;cases this
  ·subst hp
   rcases List.mem_cons.1 hy with e | e
   ·exact e▸h1
   ·exact YY h1 (h4 a rfl y e)
def Uo (b:aG) (dw res:Nm):Int:=xB (fun g=>seq g.aX dw&&seq g.aV res) b.aS 0
theorem Up {k:Nat} {b:aG} {dw res:Nm} (hk:4194304≤k) (hb:b.aS.length≤1048576):te k b dw res=some (Uo b dw res):=by
 unfold te
 simp only [share]
 exact pX (x:=b.aS) (p:=fun g=>seq g.aX dw&&seq g.aV res) (l:=fun k i=>iter (ts:=vE) (R:=Int) k (nn (some (-1))) dw res b i)
  (fun k=>by simp only [iter,nn,cm,cond_false]<;>rfl)
  (fun k i hi=>by
   simp only [iter,nn,share,cf hi,bI hi,cond_true,bL,bJ hi,bO hb hi]
   cases seq b.aS[i].aX dw<;>rfl) k (by omega)
theorem YZ {k:Nat} {b:aG} {dw res:Nm} (hk:4194304≤k) (hb:b.aS.length≤1048576):ij k b dw res=some (Uo b dw res):=by
 unfold ij
 simp only [share]
 exact pX (x:=b.aS) (p:=fun g=>seq g.aX dw&&seq g.aV res) (l:=fun k i=>iter (ts:=l7) (R:=Int) k (fB (some (-1))) dw res b.aS (b.aS.length:Int) i)
  (fun k=>by simp only [iter,fB,cm,cond_false]<;>rfl)
  (fun k i hi=>by
   simp only [iter,fB,share,cf hi,bI hi,cond_true,bL,bJ hi,bO hb hi]
   cases seq b.aS[i].aX dw<;>rfl) k (by omega)
def Uq (z p:aJ):Bool:=cond (!seq z.hC p.hC) (slt z.hC p.hC) (uq z.aX z.aV p.aX p.aV)
def Y0 (q:Option aJ) (p:aJ):Bool:=match q with
 | none=>true
 | some z=>Uq z p
def aaL (b:aG) (p:aJ):Bool:=cD p.hC&&(!bN (Uo b p.aX p.aV) 0&&((b_ 1 p.cI&&b_ p.cI 1000000)&&(b_ b.nW p.fC&&b_ p.fC (aQ .i64 b.nW 10))))
def QL (b:aG) (q:Option aJ) (p:aJ):Bool:=aaL b p&&Y0 q p
theorem Ur (k:Nat) (a b:aJ):∃ v,oU k a b=some v∧b_ 0 v=!Uq a b:=by
 unfold oU Uq
 cases h:seq a.hC b.hC with
 | true=>exact ⟨_,by simp only [Bool.not_true,cond_false,QF];rfl,QG ..⟩
 | false=>
  refine ⟨_,by simp only [Bool.not_false,cond_true,QE];rfl,?_⟩
  unfold Sm
  rw [h]
  cases slt a.hC b.hC<;>rfl
theorem OG (k:Nat) (a b:aJ):mQ k a b=some (Uq a b):=by
 unfold mQ Uq uq
 cases seq a.hC b.hC with
 | false=>rfl
 | true=>
  cases h:seq a.aX b.aX with
  | false=>simp
  | true=>rw [QC h];rfl
def uL (a:ck) (p:aJ):Int:=cond (Dw a ⟨p.aX,p.aV⟩) p.cI 0
def Ss (b:aG) (a:ck):Int:=b.bG.foldl (fun s p=>s+uL a p) 0
def ab7 (b:aG):Prop:=∀ p,p∈b.bG→1≤p.cI∧p.cI≤1000000
theorem JZ {b:aG}:∀ {l:List aJ} {q:Option aJ},chain (QL b) q l=true→∀ p,p∈l→1≤p.cI∧p.cI≤1000000
 | [],_,_,_,h=>by cases h
 | a::r,q,h,p,hp=>by
  simp only [chain,Bool.and_eq_true] at h
  rcases List.mem_cons.1 hp with e | e
  ·subst e
   simp only [QL,aaL,Bool.and_eq_true] at h
   obtain ⟨⟨⟨-,-,⟨h1,h2⟩,-⟩,-⟩,-⟩:=h
   exact ⟨rn h1,rn h2⟩
  ·exact JZ h.2 p e
theorem Ii {a:ck}:∀ (l:List aJ) (s:Int),(∀ p,p∈l→1≤p.cI∧p.cI≤1000000)→l.foldl (fun s p=>s+uL a p) s=s+l.foldl (fun s p=>s+uL a p) 0∧0≤l.foldl (fun s p=>s+uL a p) 0∧l.foldl (fun s p=>s+uL a p) 0≤1000000*(l.length:Int)
 | [],s,_=>by simp
 | p::r,s,h=>by
  have h1:0≤uL a p∧uL a p≤1000000:=by
   have:=h p (by simp)
   unfold uL
   cases Dw a ⟨p.aX,p.aV⟩ with
   | true=>simp only [cond_true];omega
   | false=>simp only [cond_false];omega
  have ih1:=Ii (a:=a) r (s+uL a p) (fun q hq=>h q (by simp [hq]))
  have ih2:=Ii (a:=a) r (0+uL a p) (fun q hq=>h q (by simp [hq]))
  rw [List.foldl_cons,List.foldl_cons,List.length_cons]
  push_cast
  omega
theorem W7 {k:Nat} {b:aG} {dw res:Nm} (hk:4194304≤k) (hl:b.bG.length≤1048576) (hg:ab7 b):AP k b dw res=some (Ss b ⟨dw,res⟩):=by
 unfold AP Ss
 simp only [share]
 exact fL (S:=Int) (x:=b.bG) (f:=fun s p=>s+uL ⟨dw,res⟩ p) (B:=0) (l:=fun k s i=>iter (ts:=zP) (R:=Int) k (tg fun v=>some v) dw res b s i) (J:=fun s=>some s) (fun i s=>0≤s∧s≤1000000*(i:Int))
  (fun k s _=>by simp only [iter,tg,cm,cond_false]<;>rfl)
  (fun k i s hi hb hI=>by
   have hv:=hg _ (dk hi)
   have e0:s+b.bG[i].cI=aQ .i64 s b.bG[i].cI:=(ss (by omega) (by omega)).symm
   simp only [iter,tg,share,cf hi,bI hi,cond_true,bL,bJ hi,bO hl hi,uL,Dw]
   rw [H_ dw,H_ res]
   cases seq b.bG[i].aX dw with
   | false=>exact ⟨by simp only [cond_false,Bool.false_and,Int.add_zero]<;>rfl,by simp only [cond_false,Bool.false_and];push_cast;omega⟩
   | true=>
    cases seq b.bG[i].aV res with
    | false=>exact ⟨by simp only [cond_false,Bool.and_false,Int.add_zero]<;>rfl,by simp only [cond_false,Bool.and_false];push_cast;omega⟩
    | true=>exact ⟨by simp only [cond_true,Bool.and_self,e0]<;>rfl,by simp only [cond_true,Bool.and_self];push_cast;omega⟩) k 0 (by omega) (by simp)
def St (w:aL) (b:aG) (g:aF):Bool:=bM (Ak w b g.aX g.aV+Ss b (JY g)+g.ly) g.bW
def MU (w:aL) (b:aG):Bool:=(b_ (b.aS.length:Int) 10&&b_ (b.bG.length:Int) 24)&&(chain (QL b) none b.bG&&(chain (Sr w) none b.aS&&b.aS.all (St w b)))
theorem OH {w:aL} {b:aG} {k:Nat} (hk:4194304*5≤k) (hw:w.sd) (hb:b.sd) (hl:b.aK.length≤40) (hg:ab7 b):
  iter (ts:=mi) (R:=Bool) k (iB (some true)) w b (0:Int)=some (chain (Sr w) none b.aS&&b.aS.all (St w b)):=by
 have cd:=hb
 obtain ⟨-,-,-,-,-,hle,Yh⟩:=hb
 have h:=eY (R:=Option Bool) (x:=b.aS) (p:=fun q g=>Sr w q g&&St w b g) (B:=4194304*3) (l:=fun k i=>iter (ts:=mi) (R:=Bool) k (iB (some true)) w b i) (E:=some true) (O:=some false)
  (fun k=>by simp only [iter,iB,cm,cond_false]<;>rfl)
  (fun k i hi hbk=>by
   have hgi:=hle.2 _ (dk hi)
   simp only [iter,iB,share,cf hi,bI hi,cond_true,bL,bJ hi,My (show 4194304≤k by omega) hw.2.2.1,eg (show 4194304≤k by omega) hgi.2.1,Ul (dw:=b.aS[i].aX) (res:=b.aS[i].aV) hbk hw cd hl,W7 (dw:=b.aS[i].aX) (res:=b.aS[i].aV) (show 4194304≤k by omega) Yh.1 hg,Option.bind_some,bO hle.1 hi,Sr,YX,cJ,St,JY]
   have hu:=K9 (w:=w) (dw:=b.aS[i].aX) (res:=b.aS[i].aV) cd hl
   have ho:=(Ii (a:=⟨b.aS[i].aX,b.aS[i].aV⟩) b.bG 0 hg).2
   have Jl:0≤Ss b ⟨b.aS[i].aX,b.aS[i].aV⟩∧Ss b ⟨b.aS[i].aX,b.aS[i].aV⟩≤1000000*(b.bG.length:Int):=ho
   have hpl:=Yh.1
   cases (iK w.dS b.aS[i].aX).isSome with
   | false=>rfl
   | true=>
    cases cD b.aS[i].aV with
    | false=>rfl
    | true=>
     cases f1:b_ 0 b.aS[i].ly with
     | false=>rfl
     | true=>
      cases f2:b_ b.aS[i].ly b.aS[i].bW with
      | false=>rfl
      | true=>
       cases f3:b_ b.aS[i].bW 1000000 with
       | false=>rfl
       | true=>
        have f1':=rn f1
        have f2':=rn f2
        have f3':=rn f3
        rw [ss (m:=Ak w b b.aS[i].aX b.aS[i].aV) (by omega) (by omega),ss (by omega) (by omega)]
        rcases Nat.eq_zero_or_pos i with rfl | h0
        ·simp only [Bool.not_true,cond_false,FU (show (((0:Nat):Int))≤0 by omega),kL,Un,Bool.and_self,Bool.true_and]
         cases bM (Ak w b b.aS[0].aX b.aS[0].aV+Ss b ⟨b.aS[0].aX,b.aS[0].aV⟩+b.aS[0].ly) b.aS[0].bW<;>rfl
        ·have c8:i-1 < b.aS.length:=by omega
         simp only [Bool.not_true,Bool.not_false,cond_true,cond_false,R2 (show ¬ ((i:Int))≤0 by omega),pt h0 (show i≤1048576 by have:=hle.1;omega),bI c8,bL,bJ c8,kM h0 hi,Un,QF,Option.bind_some,QG,Bool.and_self,Bool.true_and]
         cases uq b.aS[i-1].aX b.aS[i-1].aV b.aS[i].aX b.aS[i].aV<;>cases bM (Ak w b b.aS[i].aX b.aS[i].aV+Ss b ⟨b.aS[i].aX,b.aS[i].aV⟩+b.aS[i].ly) b.aS[i].bW<;>rfl) k (by have:=hle.1;omega)
 rw [wk,wm] at h
 exact h.trans (by cases chain (Sr w) none b.aS&&b.aS.all (St w b)<;>rfl)
theorem Us {k:Nat} {w:aL} {b:aG} (hk:4194304*5≤k) (hw:w.sd) (hb:b.sd) (hl:b.aK.length≤40):th k w b=some (MU w b):=by
 have cd:=hb
 obtain ⟨-,-,-,-,-,hle,Yh⟩:=hb
 unfold th MU
 have h:=fun J:aL→aG→Option Bool=>eY (R:=Option Bool) (x:=b.bG) (p:=QL b) (B:=4194304*2) (l:=fun k i=>iter (ts:=vG) (R:=Bool) k (nq J) w b i) (E:=J w b) (O:=some false)
  (fun k=>by simp only [iter,nq,cm,cond_false]<;>rfl)
  (fun k i hi hbk=>by
   have hpi:=Yh.2 _ (dk hi)
   simp only [iter,nq,share,cf hi,bI hi,cond_true,bL,bJ hi,eg (show 4194304≤k by omega) hpi.1,Up (show 4194304≤k by omega) hle.1,Mw,Option.bind_some,bO Yh.1 hi,QL,aaL]
   rcases Nat.eq_zero_or_pos i with rfl | h0
   ·simp only [rm,kL,Y0]
    cases cD b.bG[0].hC<;>cases bN (Uo b b.bG[0].aX b.bG[0].aV) 0<;>cases b_ 1 b.bG[0].cI&&b_ b.bG[0].cI 1000000<;>cases b_ b.nW b.bG[0].fC&&b_ b.bG[0].fC (aQ .i64 b.nW 10)<;>rfl
   ·have c8:i-1 < b.bG.length:=by omega
    obtain ⟨v,v1,v2⟩:=Ur k b.bG[i-1] b.bG[i]
    simp only [yX h0,pt h0 (show i≤1048576 by have:=Yh.1;omega),bI c8,cond_true,bL,bJ c8,kM h0 hi,v1,v2,Option.bind_some,Y0]
    cases cD b.bG[i].hC<;>cases bN (Uo b b.bG[i].aX b.bG[i].aV) 0<;>cases b_ 1 b.bG[i].cI&&b_ b.bG[i].cI 1000000<;>cases b_ b.nW b.bG[i].fC&&b_ b.bG[i].fC (aQ .i64 b.nW 10)<;>cases Uq b.bG[i-1] b.bG[i]<;>rfl) k (by have:=Yh.1;omega)
 simp only [share,cJ]
 cases b_ (b.aS.length:Int) 10 with
 | false=>rfl
 | true=>
  cases b_ (b.bG.length:Int) 24 with
  | false=>rfl
  | true=>
   refine (h _).trans ?_
   cases hc:chain (QL b) none b.bG with
   | false=>rfl
   | true=>exact (OH hk hw cd hl fun p hp=>JZ hc p hp).trans rfl
theorem VK {α:Type} {p q:α→Bool}:∀ {l:List α},(∀ a,a∈l→p a=q a)→l.all p=l.all q
 | [],_=>rfl
 | a::r,h=>by rw [List.all_cons,List.all_cons,h a (by simp),VK (l:=r) fun b hb=>h b (by simp [hb])]
def Ut (w:aL) (b:aG) (m:List cG) (g:aF):List cG:=oC (JY g) (aQ .i64 g.ly (Ak w b g.aX g.aV)) m
def wb (p:aJ):ck:=⟨p.aX,p.aV⟩
def W8 (m:List cG) (p:aJ):List cG:=oC (wb p) (aQ .i64 (Bc (wb p) m) p.cI) m
theorem acS {a b:ck} (h:a≠b):Dw a b=false:=by
 cases e:Dw a b with
 | false=>rfl
 | true=>exact absurd (Bb.1 e) h
theorem Y1 (a:ck):Dw a a=true:=Bb.2 rfl
theorem MV {w:aL} {b:aG} {a:ck}:∀ (l:List aF) (m:List cG),(∀ g,g∈l→a≠JY g)→Bc a (l.foldl (Ut w b) m)=Bc a m
 | [],_,_=>rfl
 | g::r,m,h=>by
  rw [List.foldl_cons,MV r _ fun x hx=>h x (by simp [hx])]
  unfold Ut
  rw [Ih,acS (h g (by simp))];rfl
theorem Su {w:aL} {b:aG}:∀ (l:List aF) (m:List cG),(l.map JY).Nodup→∀ g,g∈l→Bc (JY g) (l.foldl (Ut w b) m)=aQ .i64 g.ly (Ak w b g.aX g.aV)
 | [],_,_,_,h=>by cases h
 | g::r,m,hn,x,hx=>by
  simp only [List.map_cons,List.nodup_cons] at hn
  rw [List.foldl_cons]
  rcases List.mem_cons.1 hx with e | e
  ·subst e
   rw [MV r _ fun y hy e=>hn.1 (by rw [e];exact List.mem_map_of_mem hy)]
   unfold Ut
   rw [Ih,Y1];rfl
  ·exact Su r _ hn.2 x e
theorem Sv {a:ck}:∀ (l:List aJ) (m:List cG),(∀ p,p∈l→1≤p.cI∧p.cI≤1000000)→0≤Bc a m→Bc a m+1000000*(l.length:Int)≤9223372036854775807→Bc a (l.foldl W8 m)=Bc a m+l.foldl (fun s p=>s+uL a p) 0
 | [],m,_,_,_=>by simp
 | p::r,m,h,h0,h1=>by
  have hp:=h p (by simp)
  have hr:∀ q,q∈r→1≤q.cI∧q.cI≤1000000:=fun q hq=>h q (by simp [hq])
  rw [List.length_cons] at h1
  push_cast at h1
  have hg:Bc a (W8 m p)=Bc a m+uL a p:=by
   unfold W8 uL
   rw [Ih]
   have ek:(⟨p.aX,p.aV⟩:ck)=wb p:=rfl
   rw [ek]
   cases e:Dw a (wb p) with
   | false=>simp only [cond_false,Int.add_zero]
   | true=>
    simp only [cond_true]
    rw [← Bb.1 e,ss (by omega) (by omega)]
  have ho:0≤uL a p∧uL a p≤1000000:=by
   unfold uL
   cases Dw a ⟨p.aX,p.aV⟩ with
   | true=>simp only [cond_true];omega
   | false=>simp only [cond_false];omega
  rw [List.foldl_cons,Sv r (W8 m p) hr (by omega) (by omega),hg,List.foldl_cons,(Ii (a:=a) r (0+uL a p) hr).1]
  omega
theorem Uu {k:Nat} {w:aL} {b:aG} (hk:4194304*5≤k) (hw:w.sd) (hb:b.sd) (hl:b.aK.length≤40):ik k b w=some (MU w b):=by
 have cd:=hb
 obtain ⟨-,-,-,-,-,hle,Yh⟩:=hb
 unfold ik MU
 have h5:=fun J:aG→List cG→Option Bool=>K_ (R:=Option Bool) (x:=b.aS) (p:=Sr w) (f:=Ut w b) (B:=4194304*3) (l:=fun k m i=>iter (ts:=l9) (R:=Bool) k (fD J) b w b.aS (b.aS.length:Int) i m) (E:=fun m=>J b m) (O:=some false)
  (fun k m=>by simp only [iter,fD,cm,cond_false]<;>rfl)
  (fun k i m hi hbk=>by
   have hgi:=hle.2 _ (dk hi)
   simp only [iter,fD,share,cf hi,bI hi,cond_true,bL,bJ hi,Aj (show 4194304≤k by omega) hw.2.2.1,PA,gg (show 4194304≤k by omega) hgi.2.1,Um (dw:=b.aS[i].aX) (res:=b.aS[i].aV) hbk hw cd hl,Option.bind_some,Sr,YX]
   rw [bO hle.1 hi,cJ b.aS[i].ly,cJ b.aS[i].bW,cJ 1000000]
   rcases Nat.eq_zero_or_pos i with rfl | h0
   ·simp only [rm,kL,Un]
    cases (iK w.dS b.aS[0].aX).isSome<;>cases cD b.aS[0].aV<;>cases b_ 0 b.aS[0].ly<;>cases b_ b.aS[0].ly b.aS[0].bW<;>cases b_ b.aS[0].bW 1000000<;>rfl
   ·have c8:i-1 < b.aS.length:=by omega
    simp only [yX h0,pt h0 (show i≤1048576 by have:=hle.1;omega),bI c8,cond_true,bL,bJ c8,kM h0 hi,Un,uq]
    cases h1:seq b.aS[i-1].aX b.aS[i].aX with
    | true=>
     rw [QC h1]
     cases slt b.aS[i-1].aV b.aS[i].aV<;>cases (iK w.dS b.aS[i].aX).isSome<;>cases cD b.aS[i].aV<;>cases b_ 0 b.aS[i].ly<;>cases b_ b.aS[i].ly b.aS[i].bW<;>cases b_ b.aS[i].bW 1000000<;>rfl
    | false=>
     cases slt b.aS[i-1].aX b.aS[i].aX<;>cases (iK w.dS b.aS[i].aX).isSome<;>cases cD b.aS[i].aV<;>cases b_ 0 b.aS[i].ly<;>cases b_ b.aS[i].ly b.aS[i].bW<;>cases b_ b.aS[i].bW 1000000<;>rfl) k [] (by have:=hle.1;omega)
 have h16:=fun (J:aG→List cG→Option Bool) (m:List cG)=>K_ (R:=Option Bool) (x:=b.bG) (p:=QL b) (f:=W8) (B:=4194304*2) (l:=fun k m i=>iter (ts:=lH) (R:=Bool) k (fb J) b b.bG (b.bG.length:Int) i m) (E:=fun m=>J b m) (O:=some false)
  (fun k m=>by simp only [iter,fb,cm,cond_false]<;>rfl)
  (fun k i m hi hbk=>by
   have hpi:=Yh.2 _ (dk hi)
   simp only [iter,fb,share,cf hi,bI hi,cond_true,bL,bJ hi,YZ (show 4194304≤k by omega) hle.1,gg (show 4194304≤k by omega) hpi.1,OG,Option.bind_some,QL,aaL]
   rw [bO Yh.1 hi,cJ b.bG[i].cI,cJ 1000000,cJ b.bG[i].fC,cJ (aQ .i64 b.nW 10)]
   rcases Nat.eq_zero_or_pos i with rfl | h0
   ·simp only [rm,kL,Y0]
    cases cD b.bG[0].hC<;>cases bN (Uo b b.bG[0].aX b.bG[0].aV) 0<;>cases b_ 1 b.bG[0].cI<;>cases b_ b.bG[0].cI 1000000<;>cases b_ b.nW b.bG[0].fC<;>cases b_ b.bG[0].fC (aQ .i64 b.nW 10)<;>rfl
   ·have c8:i-1 < b.bG.length:=by omega
    simp only [yX h0,pt h0 (show i≤1048576 by have:=Yh.1;omega),bI c8,cond_true,bL,bJ c8,kM h0 hi,Y0]
    cases Uq b.bG[i-1] b.bG[i]<;>cases cD b.bG[i].hC<;>cases bN (Uo b b.bG[i].aX b.bG[i].aV) 0<;>cases b_ 1 b.bG[i].cI<;>cases b_ b.bG[i].cI 1000000<;>cases b_ b.nW b.bG[i].fC<;>cases b_ b.bG[i].fC (aQ .i64 b.nW 10)<;>rfl) k m (by have:=Yh.1;omega)
 have h26:=fun m:List cG=>gf (R:=Option Bool) (x:=b.aS) (p:=fun g=>bM (Bc (JY g) m) g.bW) (B:=0) (l:=fun k i=>iter (ts:=lG) (R:=Bool) k (fa (some true)) b.aS (b.aS.length:Int) i m) (E:=some true) (O:=some false)
  (fun k=>by simp only [iter,fa,cm,cond_false]<;>rfl)
  (fun k i hi _=>by
   simp only [iter,fa,cf hi,bI hi,cond_true,bL,bJ hi,bO hle.1 hi]
   have e:l8 (fun p:cG=>(seq b.aS[i].aX p.Key.dw&&(seq b.aS[i].aV p.Key.resource))) (fun p:cG=>p.Mb) (0:Int) m=Bc (JY b.aS[i]) m:=rfl
   rw [e]
   cases bM (Bc (JY b.aS[i]) m) b.aS[i].bW<;>rfl) k (by have:=hle.1;omega)
 simp only [share,cJ]
 cases hl1:b_ (b.aS.length:Int) 10 with
 | false=>rfl
 | true=>
  cases QM:b_ (b.bG.length:Int) 24 with
  | false=>rfl
  | true=>
   refine (h5 _).trans ?_
   cases hc:chain (Sr w) none b.aS with
   | false=>simp only [Bool.false_and,Bool.and_false];rfl
   | true=>
    refine (h16 _ _).trans ?_
    cases hp:chain (QL b) none b.bG with
    | false=>rfl
    | true=>
     refine (h26 _).trans ?_
     have hg:=JZ hp
     have acT:chain (fun q g=>YX w g&&Un q g) none b.aS=true:=hc
     rw [wk,wm] at acT
     have mC:=List.all_eq_true.1 (Bool.and_eq_true_iff.1 acT).1
     have AL:=(PB (Bool.and_eq_true_iff.1 acT).2).1
     have ag4:=rn QM
     rw [VK (p:=fun g=>bM (Bc (JY g) (b.bG.foldl W8 (b.aS.foldl (Ut w b) []))) g.bW) (q:=St w b) fun g hgm=>by
      have hu:=K9 (w:=w) (dw:=g.aX) (res:=g.aV) cd hl
      have h0:=mC g hgm
      simp only [YX,Bool.and_eq_true] at h0
      have f1:=rn h0.2.2.1
      have f2:=rn h0.2.2.2.1
      have f3:=rn h0.2.2.2.2
      have e1:=Su (w:=w) (b:=b) b.aS [] AL g hgm
      rw [ss (by omega) (by omega)] at e1
      have e2:=Sv (a:=JY g) b.bG (b.aS.foldl (Ut w b) []) hg (by omega) (by omega)
      rw [e2,e1]
      unfold St Ss
      congr 1
      omega]
     cases b.aS.all (St w b)<;>rfl
def uK (w:aL) (b:aG):Bool:=(B7 w&&((b_ 0 b.Ei&&b_ b.Ei 1000000)&&((b_ 0 b.nW&&b_ b.nW 1000000)&&(b_ 0 b.jX&&b_ b.jX b.Ei))))&&(nz w b&&(xH b&&MU w b))
theorem PC {w:aL} {b:aG} (h:nz w b=true):b.aK.length≤40:=by
 simp only [nz,Bool.and_eq_true] at h
 have:=rn h.1;omega
theorem La {w:aL} (h:B7 w=true):fM w.bX w.gH=true:=by
 simp only [B7,Bool.and_eq_true] at h;exact h.1
theorem Qn {k:Nat} {w:aL} {b:aG} (hk:4194304*12≤k) (hw:w.sd) (hb:b.sd):oW k w b=some (uK w b):=by
 unfold oW uK
 simp only [share,Sc (show 4194304*6≤k by omega) hw,Mw,Option.bind_some,QH (show 4194304*3≤k by omega) hb]
 cases hl:B7 w with
 | false=>rfl
 | true=>
  rw [OE (show 4194304*10≤k by omega) hw hb (La hl)]
  cases b_ 0 b.Ei&&b_ b.Ei 1000000 with
  | false=>rfl
  | true=>
   cases b_ 0 b.nW&&b_ b.nW 1000000 with
   | false=>rfl
   | true=>
    cases b_ 0 b.jX&&b_ b.jX b.Ei with
    | false=>rfl
    | true=>
     cases ho:nz w b with
     | false=>rfl
     | true=>
      rw [Us (show 4194304*5≤k by omega) hw hb (PC ho)]
      cases xH b<;>rfl
theorem H5 {k:Nat} {w:aL} {b:aG} (hk:4194304*12≤k) (hw:w.sd) (hb:b.sd):kQ k w b=some (uK w b):=by
 unfold kQ uK
 simp only [share,Sd (show 4194304*7≤k by omega) hw,Option.bind_some,QI (show 4194304*3≤k by omega) hb,cJ]
 cases hl:B7 w with
 | false=>rfl
 | true=>
  rw [OF hk hw hb (La hl)]
  cases b_ 0 b.Ei with
  | false=>rfl
  | true=>
   cases b_ b.Ei 1000000 with
   | false=>rfl
   | true=>
    cases b_ 0 b.nW with
    | false=>rfl
    | true=>
     cases b_ b.nW 1000000 with
     | false=>rfl
     | true=>
      cases b_ 0 b.jX with
      | false=>rfl
      | true=>
       cases b_ b.jX b.Ei with
       | false=>rfl
       | true=>
        cases ho:nz w b with
        | false=>rfl
        | true=>
         rw [Uu (show 4194304*5≤k by omega) hw hb (PC ho)]
         cases xH b<;>rfl
theorem ab8 {w:aL} (h:B7 w=true):Ia w.dS=true:=by
 simp only [B7,Bool.and_eq_true] at h;exact h.2
theorem acU {w:aL} {b:aG} (h:uK w b=true):B7 w=true:=by
 simp only [uK,Bool.and_eq_true] at h;exact h.1.1
theorem QN {b:aG}:∀ {l:List aI} {q:Option aI},chain (A9 b) q l=true→∀ g,g∈l→zn g.cL=true
 | [],_,_,_,h=>by cases h
 | a::r,q,h,g,hg=>by
  simp only [chain,Bool.and_eq_true] at h
  rcases List.mem_cons.1 hg with e | e
  ·subst e
   have h1:=h.1
   simp only [A9,Bool.and_eq_true] at h1
   exact h1.2.2.2.2
  ·exact QN h.2 g e
theorem Yd.ge {α:Type} {F:Nat→Option α} {a:α} (C:Nat) (h:∀ k,C≤k→F k=some a):Yd F a:=⟨C,h⟩
theorem MW (x:List (List UInt8)):gA pZ x=x.length:=by
 induction x with
 | nil=>rfl
 | cons a r ih=>simp only [gA,ih,pZ,List.length_cons];omega
theorem Lb {α:Type} {w:α→Int} {b:Int} {xs:List α} (hx:xs.length≤1048576) (hb:0≤b) (h:∀ x,x∈xs→w x≤b):gA w xs≤1048576*b:=
 Int.le_trans (Y3 h) (Int.mul_le_mul_of_nonneg_right (by omega) hb)
theorem VL {xs:List aC} (h:jt aC.sd xs):0≤gA dD xs∧gA dD xs≤1200000000000000000:=by
 refine ⟨jT FZ xs,Int.le_trans (Lb (b:=1100000000001) h.1 (by omega) fun s hs=>?_) (by omega)⟩
 have h2:=Lb (w:=er) (b:=1048586) (h.2 s hs).2.1 (by omega) fun f hf=>by
  have h3:=((h.2 s hs).2.2 f hf).2.2.2.2.1.1
  unfold er
  rw [MW]
  omega
 unfold dD
 omega
theorem Y4 {xs:List aD} (h:jt aD.sd xs):0≤gA e9 xs∧gA e9 xs≤10000000:=
 ⟨jT Ij xs,Int.le_trans (Lb (b:=6) h.1 (by omega) fun s _=>by unfold e9;omega) (by omega)⟩
def idxs {α:Type} (p:α→Bool):List α→Nat→List Int
 | [],_=>[]
 | a::r,i=>cond (p a) ((i:Int)::idxs p r (i+1)) (idxs p r (i+1))
theorem RY {α:Type} {p:α→Bool}:∀ {x:List α} {i:Nat},(idxs p x i).length≤x.length
 | [],_=>Nat.le_refl _
 | a::r,i=>by
  have:=RY (p:=p) (x:=r) (i:=i+1)
  simp only [idxs]
  cases p a<;>simp<;>omega
theorem PD {α R:Type} {p:α→Bool}:∀ (x:List α) (i:Nat) (s:List Int),scan (R:=R) (fun s i a=>.inl (cond (p a) (s++[(i:Int)]) s)) x i s=.inl (s++idxs p x i)
 | [],_,s=>by simp [scan,idxs]
 | a::r,i,s=>by
  simp only [scan,idxs]
  rw [PD r (i+1)]
  cases p a<;>simp
theorem J0 {α R:Type} {x:List α} {B:Nat} {p:α→Bool} {l:Nat→List Int→Int→R} {J:List Int→R} (he:∀ k s,l (k+1) s (x.length:Int)=J s)
  (h:∀ k i s (hi:i < x.length),B≤k→s.length≤i→l (k+1) s (i:Int)=l k (cond (p x[i]) (s++[(i:Int)]) s) ((i+1:Nat):Int)) (k:Nat) (hk:B+x.length+1≤k):l k [] 0=J (idxs p x 0):=by
 have:=JN (x:=x) (B:=B) (l:=l) (J:=J) (f:=fun s i a=>.inl (cond (p a) (s++[(i:Int)]) s)) (fun i s=>s.length≤i) (fun k s _=>he k s)
  (fun k i s hi hb hs=>⟨h k i s hi hb hs,fun s' e=>by cases e;cases p x[i]<;>simp<;>omega⟩) k [] hk (Nat.le_refl _)
 rw [this,PD]
 rfl
def nmP (t:aA) (role:Int) (q:aB×Nm):Bool:=bM q.1.Kind 4&&(bM q.1.cu role&&(!seq q.2 []&&(seq q.1.To t.Kind&&seq q.2 t.Name)))
def n7 (w:aL) (o t:aA) (role:Int):Bool:=(((ct w.bX o).getD []).zip o.aN).any (nmP t role)
theorem W9 {k:Nat} {b:aG} {j:Nat} {role:Int} {fs:List aB} {o:aA} (hk:4194304≤k) (hj:j < b.aK.length) (hl:fs.length≤o.aN.length) (hv:o.aN.length≤1048576):
  iter (ts:=pj) (R:=Bool) k (kX (some false)) (j:Int) role b fs (0:Int) o=some ((fs.zip o.aN).any (nmP b.aK[j] role)):=by
 have hz:=A8 hl
 refine (xz (R:=Option Bool) (x:=fs.zip o.aN) (p:=nmP b.aK[j] role) (B:=0) (l:=fun k n=>iter (ts:=pj) (R:=Bool) k (kX (some false)) (j:Int) role b fs n o) (E:=some false) (O:=some true)
  (fun k=>by simp only [hz,iter,kX,cm,cond_false]<;>rfl)
  (fun k n hn _=>by
   rw [hz] at hn
   have hn':n < o.aN.length:=by omega
   simp only [iter,kX,share,cf hn,bI hn,bI hn',bI hj,cond_true,bL,bJ hn,bJ hn',bJ hj,bO (show fs.length≤1048576 by omega) hn,List.getElem_zip,nmP]
   cases bM fs[n].Kind 4 with
   | false=>rfl
   | true=>
    cases bM fs[n].cu role with
    | false=>rfl
    | true=>
     cases seq o.aN[n] [] with
     | true=>rfl
     | false=>
      cases seq fs[n].To b.aK[j].Kind with
      | false=>rfl
      | true=>cases seq o.aN[n] b.aK[j].Name<;>rfl) k (by rw [hz];omega)).trans ?_
 cases (fs.zip o.aN).any (nmP b.aK[j] role)<;>rfl
theorem W_ {k:Nat} {w:aL} {b:aG} {i j:Nat} {role:Int} (hk:4194304*2≤k) (hw:w.bX.length≤1048576) (hi:i < b.aK.length) (hj:j < b.aK.length) (hv:b.aK[i].aN.length≤1048576):
  vZ k w b (i:Int) (j:Int) role=some (n7 w b.aK[i] b.aK[j] role):=by
 unfold vZ n7
 rw [bI hi,bJ hi,ny (show 4194304≤k by omega) hw]
 refine (W9 (k:=k) (j:=j) (role:=role) (fs:=(ct w.bX b.aK[i]).getD []) (o:=nth (default:aA) b.aK (i:Int)) (by omega) hj ?_ ?_).trans ?_
 ·rw [bJ hi];exact K8 w.bX b.aK[i]
 ·rw [bJ hi];exact hv
 ·rw [bJ hi]
theorem PE {o t:aA} {role:Int} {e:Bool}:∀ (z:List (aB×Nm)) (i:Nat),(∀ n (h:n < z.length),∃ h':i+n < o.aN.length,o.aN[i+n]=z[n].2)→
  BE (ts:=pb) (R:=Bool) kR (fun (_ _:aA) (_:Int) (_:Bool)=>some false) (uM z i) o t role e=some (z.any (nmP t role))
 | [],_,_=>rfl
 | q::r,i,h=>by
  have ih:=PE (o:=o) (t:=t) (role:=role) (e:=e) r (i+1) fun n hn=>by
   obtain ⟨h1,h2⟩:=h (n+1) (by simpa using hn)
   exact ⟨by omega,by simpa [show i+1+n=i+(n+1) by omega] using h2⟩
  obtain ⟨h1,h2⟩:=h 0 (by simp)
  simp only [Nat.add_zero,List.getElem_cons_zero] at h1 h2
  simp only [uM,List.any_cons]
  have hq:nmP t role q=(bM q.1.Kind 4&&(bM q.1.cu role&&(!seq q.2 []&&(seq q.1.To t.Kind&&seq q.2 t.Name)))):=rfl
  rw [hq]
  cases c1:bM q.1.Kind 4 with
  | false=>exact ih
  | true=>
   cases c2:seq q.2 [] with
   | true=>simpa using ih
   | false=>
    simp only [Bool.not_false,Bool.and_self,cond_true,Bool.true_and]
    change kR ((i:Int),q.1,()) (BE (ts:=pb) (R:=Bool) kR (fun (_ _:aA) (_:Int) (_:Bool)=>some false) (uM r (i+1))) o t role e=_
    unfold kR
    simp only [share,bI h1,bL,bJ h1,h2]
    cases bM q.1.cu role with
    | false=>exact ih
    | true=>
     cases seq q.1.To t.Kind with
     | false=>exact ih
     | true=>
      cases seq q.2 t.Name with
      | false=>exact ih
      | true=>rfl
theorem PF {k:Nat} {w:aL} {o t:aA} {role:Int} (hk:4194304≤k) (hw:w.bX.length≤1048576) (hv:o.aN.length≤1048576):qa k w o t role=some (n7 w o t role):=by
 unfold qa pa n7
 simp only [Option.bind_some,VJ hk hw hv]
 exact PE _ 0 YR
def MX (w:aL) (b:aG) (o:aA):Bool:=!o.Ending&&b.aK.any fun t=>t.Ending&&n7 w o t 3
def H4 (w:aL) (b:aG):List Int:=idxs (MX w b) b.aK 0
theorem Sw {α:Type} {p:α→Bool}:∀ (x:List α) (s:Bool),x.foldl (fun s a=>s||p a) s=(s||x.any p)
 | [],s=>by simp
 | a::r,s=>by rw [List.foldl_cons,Sw r,List.any_cons,Bool.or_assoc]
theorem Yw {k:Nat} {w:aL} {b:aG} (hk:4194304*6≤k) (hw:w.bX.length≤1048576) (hb:jt aA.sd b.aK):yK k w b=some (H4 w b):=by
 unfold yK H4
 simp only [share]
 exact J0 (R:=Option (List Int)) (x:=b.aK) (p:=MX w b) (B:=4194304*4) (l:=fun k s i=>iter (ts:=yJ) (R:=List Int) k (qR fun v=>some v) w b i s) (J:=some)
  (fun k s=>by simp only [iter,qR,cm,cond_false]<;>rfl)
  (fun k i s hi cd hs=>by
   have hv:=(Ic (hb.2 _ (dk hi))).1
   simp only [iter,qR,share,cf hi,cond_true]
   refine (fL (R:=Option (List Int)) (x:=b.aK) (B:=4194304*2) (S:=Bool) (f:=fun (e:Bool) (t:aA)=>e||(t.Ending&&n7 w b.aK[i] t 3)) (l:=fun k e j=>iter (ts:=yI) (R:=List Int) k (qQ _) w b (i:Int) e j s) (fun _ _=>True)
    (fun k e _=>by simp only [iter,qQ,cm,cond_false]<;>rfl)
    (fun k j e hj OA _=>⟨by
     simp only [iter,qQ,share,cf hj,cond_true,bI hj,bL,bJ hj,bO hb.1 hj,W_ OA hw hi hj hv,Option.bind_some]
     cases b.aK[j].Ending with
     | false=>cases e<;>rfl
     | true=>cases n7 w b.aK[i] b.aK[j] 3<;>cases e<;>rfl,trivial⟩) k false (by have:=hb.1;omega) trivial).trans ?_
   rw [Sw]
   have T8:=hb.1
   simp only [bI hi,bL,bJ hi,bO hb.1 hi,Bool.false_or,MX,sH (show s.length+[(i:Int)].length≤16777216 by simp;omega) (show 8≤100000 by omega)]
   cases b.aK[i].Ending with
   | true=>rfl
   | false=>cases b.aK.any fun t=>t.Ending&&n7 w b.aK[i] t 3<;>rfl) k (by have:=hb.1;omega)
theorem Y5 {k:Nat} {w:aL} {b:aG} {i m:Int} {os:List aA} {N:Int} {s:List Int} {o:aA} (J:aL→aG→List aA→Int→Int→List Int→Option (List Int)) (hk:4194304*2≤k) (hw:w.bX.length≤1048576) (hb:b.aK.length≤1048576) (hv:o.aN.length≤1048576) (hs:s.length≤1048576):
  iter (ts:=qc) (R:=List Int) k (l_ J) w b i os N m b.aK (b.aK.length:Int) (0:Int) s o=cond (b.aK.any fun t=>t.Ending&&n7 w o t 3) (J w b os N m (s++[i])) (J w b os N m s):=
 xz (R:=Option (List Int)) (x:=b.aK) (p:=fun t=>t.Ending&&n7 w o t 3) (B:=4194304) (l:=fun k j=>iter (ts:=qc) (R:=List Int) k (l_ J) w b i os N m b.aK (b.aK.length:Int) j s o)
  (fun k=>by simp only [iter,l_,cm,cond_false]<;>rfl)
  (fun k j hj OA=>by
   simp only [iter,l_,share,cf hj,cond_true,bI hj,bL,bJ hj,bO hb hj,PF OA hw hv,Option.bind_some,sH (show s.length+[i].length≤16777216 by simp;omega) (show 8≤100000 by omega)]
   cases b.aK[j].Ending with
   | false=>rfl
   | true=>cases n7 w o b.aK[j] 3<;>rfl) k (by omega)
theorem Yx {k:Nat} {w:aL} {b:aG} (hk:4194304*6≤k) (hw:w.bX.length≤1048576) (hb:jt aA.sd b.aK):x8 k w b=some (H4 w b):=by
 unfold x8 H4
 simp only [share]
 exact J0 (R:=Option (List Int)) (x:=b.aK) (p:=MX w b) (B:=4194304*4) (l:=fun k s i=>iter (ts:=x7) (R:=List Int) k (qd fun v=>some v) w b b.aK (b.aK.length:Int) i s) (J:=some)
  (fun k s=>by simp only [iter,qd,cm,cond_false]<;>rfl)
  (fun k i s hi cd hs=>by
   have hv:=(Ic (hb.2 _ (dk hi))).1
   have T8:=hb.1
   have h:=fun J=>Y5 (k:=k) (w:=w) (b:=b) (i:=(i:Int)) (m:=(i:Int)) (os:=b.aK) (N:=(b.aK.length:Int)) (s:=s) (o:=nth (default:aA) b.aK (i:Int)) J (by omega) hw T8 (by rw [bJ hi];exact hv) (by omega)
   simp only [iter,qd,share,cf hi,cond_true,bI hi,bL,bJ hi,bO hb.1 hi,MX]
   cases b.aK[i].Ending with
   | true=>rfl
   | false=>
    simp only [Bool.not_false,Bool.true_and]
    refine (h _).trans ?_
    rw [bO hb.1 hi,bJ hi]
    cases b.aK.any fun t=>t.Ending&&n7 w b.aK[i] t 3<;>rfl) k (by have:=hb.1;omega)
theorem Xa {k:Nat} {w:aL} {b:aG} {i m:Int} {os:List aA} {N:Int} {s:List Int} {o:aA} (J:List aA→Int→Int→aL→aG→List Int→Option (List Int)) (hk:4194304*2≤k) (hw:w.bX.length≤1048576) (hb:b.aK.length≤1048576) (hv:o.aN.length≤1048576) (hs:s.length≤1048576):
  iter (ts:=nY) (R:=List Int) k (jB J) i os N m b.aK (b.aK.length:Int) (0:Int) w b s o=cond (b.aK.any fun t=>t.Ending&&n7 w o t 3) (J os N m w b (s++[i])) (J os N m w b s):=
 xz (R:=Option (List Int)) (x:=b.aK) (p:=fun t=>t.Ending&&n7 w o t 3) (B:=4194304) (l:=fun k j=>iter (ts:=nY) (R:=List Int) k (jB J) i os N m b.aK (b.aK.length:Int) j w b s o)
  (fun k=>by simp only [iter,jB,cm,cond_false]<;>rfl)
  (fun k j hj OA=>by
   simp only [iter,jB,share,cf hj,cond_true,bI hj,bL,bJ hj,bO hb hj,PF OA hw hv,Option.bind_some,sH (show s.length+[i].length≤16777216 by simp;omega) (show 8≤100000 by omega)]
   cases b.aK[j].Ending with
   | false=>rfl
   | true=>cases n7 w o b.aK[j] 3<;>rfl) k (by omega)
theorem WR {k:Nat} {w:aL} {b:aG} (hk:4194304*6≤k) (hw:w.bX.length≤1048576) (hb:jt aA.sd b.aK):sY k w b=some (H4 w b):=by
 unfold sY H4
 simp only [share]
 exact J0 (R:=Option (List Int)) (x:=b.aK) (p:=MX w b) (B:=4194304*4) (l:=fun k s i=>iter (ts:=u9) (R:=List Int) k (mV fun v=>some v) b.aK (b.aK.length:Int) i w b s) (J:=some)
  (fun k s=>by simp only [iter,mV,cm,cond_false]<;>rfl)
  (fun k i s hi cd hs=>by
   have hv:=(Ic (hb.2 _ (dk hi))).1
   have T8:=hb.1
   have h:=fun J=>Xa (k:=k) (w:=w) (b:=b) (i:=(i:Int)) (m:=(i:Int)) (os:=b.aK) (N:=(b.aK.length:Int)) (s:=s) (o:=nth (default:aA) b.aK (i:Int)) J (by omega) hw T8 (by rw [bJ hi];exact hv) (by omega)
   simp only [iter,mV,share,cf hi,cond_true,bI hi,bL,bJ hi,bO hb.1 hi,MX]
   cases b.aK[i].Ending with
   | true=>rfl
   | false=>
    simp only [Bool.not_false,Bool.true_and]
    refine (h _).trans ?_
    rw [bO hb.1 hi,bJ hi]
    cases b.aK.any fun t=>t.Ending&&n7 w b.aK[i] t 3<;>rfl) k (by have:=hb.1;omega)
theorem Y6 {xs:List aH} (h:jt aH.sd xs):0≤gA fP xs∧gA fP xs≤10000000:=
 ⟨jT Ik xs,Int.le_trans (Lb (b:=2) h.1 (by omega) fun s _=>by unfold fP;omega) (by omega)⟩
theorem Sx {xs:List aA} (h:jt aA.sd xs):0≤gA c6 xs∧gA c6 xs≤10000000000000:=
 ⟨jT Dx xs,Int.le_trans (Lb (b:=2097157) h.1 (by omega) fun s hs=>by
  have h1:=(h.2 s hs).2.2.2.1.1
  have h2:=(h.2 s hs).2.2.2.2.2.1.1
  unfold c6
  rw [MW,MW];omega) (by omega)⟩
theorem ab3 (xs:List Int):gA rP xs=xs.length:=by
 induction xs with
 | nil=>rfl
 | cons a r ih=>simp only [gA,ih,rP,List.length_cons];omega
theorem VM {xs:List aI} (h:jt aI.sd xs):0≤gA dE xs∧gA dE xs≤10000000000000:=
 ⟨jT F5 xs,Int.le_trans (Lb (b:=1048582) h.1 (by omega) fun s hs=>by
  have h1:=(h.2 s hs).2.2.2.1.1
  unfold dE
  rw [ab3];omega) (by omega)⟩
theorem Sy {xs:List aF} (h:jt aF.sd xs):0≤gA de xs∧gA de xs≤10000000:=
 ⟨jT Dy xs,Int.le_trans (Lb (b:=4) h.1 (by omega) fun s _=>by unfold de;omega) (by omega)⟩
theorem VN {xs:List aJ} (h:jt aJ.sd xs):0≤gA ew xs∧gA ew xs≤10000000:=
 ⟨jT F7 xs,Int.le_trans (Lb (b:=5) h.1 (by omega) fun s _=>by unfold ew;omega) (by omega)⟩
def Y7 (x:aL):Int:=gA dD x.bX+gA e9 x.gH+gA fP x.dS
def Sz (x:aG):Int:=gA c6 x.aK+gA dE x.bV+gA de x.aS+gA ew x.bG
theorem acz {x:aL} (h:x.sd):0≤Y7 x∧Y7 x≤1300000000000000000:=by
 have h1:=VL h.1
 have h2:=Y4 h.2.1
 have h3:=Y6 h.2.2
 unfold Y7;omega
theorem aaB {x:aG} (h:x.sd):0≤Sz x∧Sz x≤30000000000000:=by
 have h1:=Sx h.2.2.2.1
 have h2:=VM h.2.2.2.2.1
 have h3:=Sy h.2.2.2.2.2.1
 have h4:=VN h.2.2.2.2.2.2
 unfold Sz;omega
def aea (m:Int) (x:aL):List aC×List aD×List aH:=(CK dD GL m x.bX,CK e9 J1 (m+gA dD x.bX) x.gH,CK fP J3 (m+gA dD x.bX+gA e9 x.gH) x.dS)
def ab9 (m:Int) (x:aG):List aA×List aI×List aF×List aJ:=(CK c6 Dz m x.aK,CK dE GM (m+gA c6 x.aK) x.bV,CK de DA (m+gA c6 x.aK+gA dE x.bV) x.aS,CK ew GN (m+gA c6 x.aK+gA dE x.bV+gA de x.aS) x.bG)
theorem WS {k:Nat} {m:Int} {x:aL} (hk:4194304*4≤k) (h:x.sd) (h0:0≤m) (hm:m≤2000000000000000000):
  mW k m x.bX x.gH x.dS=some (m+Y7 x,aea m x):=by
 have h1:=VL h.1
 have h2:=Y4 h.2.1
 have h3:=Y6 h.2.2
 unfold mW Y7 aea
 rw [Cw (by omega) h.1 h0 (by omega)]
 simp only [Option.bind_some]
 rw [DB (by omega) h.2.1 (by omega) (by omega)]
 simp only [Option.bind_some]
 rw [DC (by omega) h.2.2 (by omega) (by omega)]
 simp only [Option.bind_some,eL,nA,sM,Int.add_assoc]
theorem T4 {k:Nat} {m n1 n2 n3:Int} {x:aG} (hk:4194304*3≤k) (h:x.sd) (h0:0≤m) (hm:m≤4000000000000000000):
  lO k n1 n2 n3 m x.aK x.bV x.aS x.bG=some (m+Sz x,ab9 m x):=by
 have h1:=Sx h.2.2.2.1
 have h2:=VM h.2.2.2.2.1
 have h3:=Sy h.2.2.2.2.2.1
 have h4:=VN h.2.2.2.2.2.2
 unfold lO Sz ab9
 rw [Bd (by omega) h.2.2.2.1 h0 (by omega)]
 simp only [Option.bind_some]
 rw [Cx (by omega) h.2.2.2.2.1 (by omega) (by omega)]
 simp only [Option.bind_some]
 rw [Be (by omega) h.2.2.2.2.2.1 (by omega) (by omega)]
 simp only [Option.bind_some]
 rw [Cy (by omega) h.2.2.2.2.2.2 (by omega) (by omega)]
 simp only [Option.bind_some,eL,nA,sM,Int.add_assoc]
end Go.Proofs.YtljfmaaadnoggaaGreatDoor.Pu
