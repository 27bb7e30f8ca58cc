/- Typed data out of a row's reading of memory; a row out of a contract. No condition. -/
import Derived.Test.YtjkbbdldmdajkaaGreatDoorWA
import Derived.Carry
import Derived.HandedShaped
import Derived.ChangeArms
import Derived.ChangeOld
import Derived.ChangeShapes
namespace Go.Proofs.YtjkbbdldmdajkaaGreatDoor.c5
open Go Go.RowKit
section
variable {H:Type} {enc:TypeId×Value→H} {P:Program} {w:World}
def F_ (w:World):Nat→Prop:=fun b=>b < w.heap.size
def Rd (enc:TypeId×Value→H) (P:Program) (w:World) {α:Type} (t:TypeId) (n:Nat) (c:α→List AV) (ok:α→Prop):Prop:=
 P.cellsOf t=n∧(∀ x,(c x).length=n)∧∀ fuel cs y,DataW.trod enc P w 0 (fun _=>true) true fuel t cs=some y→
  ∃ x,ok x∧gZ w (F_ w) id Cv (c x) cs∧∀ u,u∈cs→u.oneCell'=true
theorem qc {t:TypeId} {k:IntKind} (ht:P.underlying t=some (.int k)) (hn:P.cellsOf t=1):Rd enc P w t 1 (fun x:Int=>[.int k x]) (fun x=>k.min≤x∧x≤k.max):=
 ⟨hn,fun _=>rfl,fun fuel cs y h=>by
  obtain ⟨n,rfl,_,hw⟩:=DataW.trod_int ht h;simp only [Lit.wf,Bool.and_eq_true,decide_eq_true_eq] at hw;exact ⟨n,hw,.cons (.int _ _) .nil,fun u hu=>by simp at hu;subst hu;rfl⟩⟩
theorem dS {t:TypeId} (ht:P.underlying t=some .string) (hn:P.cellsOf t=1):Rd enc P w t 1 (fun x:List UInt8=>[.str x]) (fun x=>x.length≤maxLen):=
 ⟨hn,fun _=>rfl,fun fuel cs y h=>by
  obtain ⟨⟨⟨s⟩⟩,rfl,_,hw⟩:=DataW.trod_string ht h;exact ⟨s,hw,.cons (.str _) .nil,fun u hu=>by simp at hu;subst hu;rfl⟩⟩
theorem Ql {t:TypeId} (ht:P.underlying t=some .bool) (hn:P.cellsOf t=1):Rd enc P w t 1 (fun x:Bool=>[.bool x]) (fun _=>True):=
 ⟨hn,fun _=>rfl,fun fuel cs y h=>by
  obtain ⟨b,rfl,_⟩:=DataW.trod_bool ht h;exact ⟨b,trivial,.cons (.bool _) .nil,fun u hu=>by simp at hu;subst hu;rfl⟩⟩
theorem W5 {a:Addr} {v:Value} (h:w.cell? a=some v):a.block < w.heap.size∧a.spot=none:=by
 unfold World.cell? at h;split at h
 ·rename_i hc;refine ⟨(Array.getElem?_eq_some_iff.1 hc).1,?_⟩;split at h
  ·cases h
  ·rename_i hs;simpa using hs
 ·cases h
theorem mh {α:Type} {d:α} {t e:TypeId} {n:Nat} {c:α→List AV} {ok:α→Prop} (ht:P.underlying t=some (.slice e)) (hn:P.cellsOf t=1) (he:Rd enc P w e n c ok) (Yl:n≠0):
  Rd enc P w t 1 (fun xs=>[C8 n d c xs]) (fun xs=>xs.length≤maxLen∧∀ x,x∈xs→ok x):=by
 refine ⟨hn,fun _=>rfl,fun fuel cs y h=>?_⟩;rcases DataW.trod_slice ht h with ⟨rfl,_⟩ | ⟨a,len,cap,elems,rest,m,_,rfl,_,_,hl,hm,hlen,hel,_,_⟩
 ·exact ⟨[],⟨Nat.zero_le _,fun x hx=>by cases hx⟩,.cons (.u_ _ _ _ _) .nil,fun u hu=>by simp at hu;subst hu;rfl⟩
 ·have one:∀ u,u∈[Value.slice (some a) len cap]→u.oneCell'=true:=fun u hu=>by simp at hu;subst hu;rfl
  by_cases h0:len=0
  ·subst h0;exact ⟨[],⟨Nat.zero_le _,fun x hx=>by cases hx⟩,.cons (.u_ _ _ _ _) .nil,one⟩
  ·have each:∀ i,i < len→∃ x,ok x∧∃ cs,w.cells? 0 (a.add (i*n)) n=some cs∧gZ w (F_ w) id Cv (c x) cs∧∀ u,u∈cs→u.oneCell'=true:=by
    intro i hi;have h1:=hel i hi;have h2:i < elems.length:=by omega
    rw [List.getElem?_eq_getElem h2,he.1,Option.bind_eq_some_iff] at h1;obtain ⟨cs,h3,h4⟩:=h1;obtain ⟨x,k1,k2,k3⟩:=he.2.2 _ _ _ h4;exact ⟨x,k1,cs,h3,k2,k3⟩
   have all:∀ m,m≤len→∃ xs:List α,xs.length=m∧∀ i,i < m→ok (xs.getD i d)∧∃ cs,w.cells? 0 (a.add (i*n)) n=some cs∧gZ w (F_ w) id Cv (c (xs.getD i d)) cs∧∀ u,u∈cs→u.oneCell'=true:=by
    intro m
    induction m with
    | zero=>exact fun _=>⟨[],rfl,fun i hi=>absurd hi (Nat.not_lt_zero _)⟩
    | succ m ih=>
     intro hm;obtain ⟨xs,h1,h2⟩:=ih (by omega);obtain ⟨x,h3⟩:=each m (by omega);refine ⟨xs++[x],by simp [h1],fun i hi=>?_⟩;by_cases dY:i < m
     ·have:(xs++[x]).getD i d=xs.getD i d:=by simp [List.getD,List.getElem?_append,h1,dY]
      rw [this];exact h2 i dY
     ·obtain rfl:i=m:=by omega
      have:(xs++[x]).getD i d=x:=by simp [List.getD,h1]
      rw [this];exact h3
   obtain ⟨xs,hx,hxs⟩:=all len (Nat.le_refl _);obtain ⟨b,o,sp⟩:=a;have hsp:sp=none:=by
    obtain ⟨_,cs,h3,_⟩:=hxs 0 (by omega);have h6:=World.cells?_some h3;have h7:=h6.2.2 0 (by omega);have hc0:0 < cs.length:=by omega
    rw [List.getElem?_eq_getElem hc0] at h7;have:=(W5 h7).2;simpa [Addr.add] using this
   subst hsp;have key:∀ i j,i < len→j < n→∃ u,w.cell? ⟨b,o+i*n+j,none⟩=some u∧VR w (F_ w) id Cv ((c (xs.getD i d)).getD j .top) u∧u.oneCell'=true:=by
    intro i j hi hj;obtain ⟨_,cs,h3,h4,h5⟩:=hxs i hi;have h6:=World.cells?_some h3;have LK:cs.length=n:=by rw [← h4.1,he.2.1]
    have mi:j < cs.length:=by omega
    have h7:=h4.2 j (by rw [h4.1];exact mi);refine ⟨cs.getD j undef,?_,h7,h5 _ (by simp only [List.getD];rw [List.getElem?_eq_getElem mi];exact List.getElem_mem mi)⟩;have:=h6.2.2 j hj;rw [vo,vo] at this;rw [this,List.getD,List.getElem?_eq_getElem mi];rfl
   obtain ⟨u0,hu0,_⟩:=key 0 0 (by omega) (by omega);obtain ⟨hb,_⟩:=W5 hu0;refine ⟨xs,⟨by omega,fun x la=>?_⟩,.cons ?_ .nil,one⟩
   ·obtain ⟨i,hi,rfl⟩:=List.getElem_of_mem la;have:=(hxs i (by omega)).1;simpa [List.getD,hi] using this
   ·have:C8 n d c xs=.fs n len (fun i j=>(c (xs.getD i d)).getD j .top):=by rw [← hx];rfl
    rw [this];refine .fs n len _ b o cap (fun i j=>(w.cell? ⟨b,o+i*n+j,none⟩).getD undef) hb hl (fun i j hi hj=>?_) (fun i j hi hj=>?_)
    ·obtain ⟨u,h1,_,h3⟩:=key i j hi hj;rw [h1];exact ⟨rfl,h3⟩
    ·obtain ⟨u,h1,h2,_⟩:=key i j hi hj;rw [h1];exact h2
def RdF (enc:TypeId×Value→H) (P:Program) (w:World) {α:Type} (fs:List Field) (off m:Nat) (c:α→List AV) (ok:α→Prop):Prop:=
 (∀ x,(c x).length=m)∧∀ (fuel:Nat) (cs:List Value) (xs:List (DataW H×List MemPlace)),cs.length=off+m→xs.length=fs.length→
  (∀ (i:Nat) (f:Field),fs[i]?=some f→DataW.trod enc P w 0 (fun _=>true) true fuel f.type ((cs.drop f.offset).take (P.cellsOf f.type))=xs[i]?)→
  ∃ x,ok x∧gZ w (F_ w) id Cv (c x) (cs.drop off)∧∀ u,u∈cs.drop off→u.oneCell'=true
theorem r8 {off:Nat}:RdF enc P w [] off 0 (fun _:Unit=>[]) (fun _=>True):=
 ⟨fun _=>rfl,fun fuel cs xs hl _ _=>by
  have:cs.drop off=[]:=by simp;omega
  rw [this];exact ⟨(),trivial,.nil,fun u hu=>by cases hu⟩⟩
theorem bT {α β:Type} {f:Field} {fs:List Field} {off n m:Nat} {c0:α→List AV} {ok0:α→Prop} {c1:β→List AV} {ok1:β→Prop} (ho:f.offset=off) (h0:Rd enc P w f.type n c0 ok0) (h1:RdF enc P w fs (off+n) m c1 ok1):
  RdF enc P w (f::fs) off (n+m) (fun p:α×β=>c0 p.1++c1 p.2) (fun p=>ok0 p.1∧ok1 p.2):=by
 refine ⟨fun x=>by simp [h0.2.1,h1.1],fun fuel cs xs hl hx h=>?_⟩;have hx0:0 < xs.length:=by rw [hx];simp
 have e0:=h 0 f rfl;rw [List.getElem?_eq_getElem hx0,ho,h0.1] at e0;obtain ⟨x,k1,k2,k3⟩:=h0.2.2 _ _ _ e0;obtain ⟨z,q1,q2,q3⟩:=h1.2 fuel cs xs.tail (by omega) (by simp [hx]) (fun i g hg=>by
  have:=h (i+1) g (by simpa using hg);rw [this];simp)
 have e:cs.drop off=(cs.drop off).take n++cs.drop (off+n):=by
  rw [← List.drop_drop];exact (List.take_append_drop n _).symm
 refine ⟨(x,z),⟨k1,q1⟩,?_,fun u hu=>?_⟩
 ·rw [e];exact gZ.app k2 q2
 ·rw [e] at hu;rcases List.mem_append.1 hu with hu | hu
  ·exact k3 u hu
  ·exact q3 u hu
theorem kR {α β:Type} {t:TypeId} {fs:Array Field} {m:Nat} {c:α→List AV} {ok:α→Prop} (ht:P.underlying t=some (.struct fs)) (hn:P.cellsOf t=m) (hF:RdF enc P w fs.toList 0 m c ok)
  (mk:α→β) {c':β→List AV} {ok':β→Prop} (hc:∀ x,c' (mk x)=c x) (hl:∀ x,(c' x).length=m) (u9:∀ x,ok x→ok' (mk x)):Rd enc P w t m c' ok':=by
 refine ⟨hn,hl,fun fuel cs y h=>?_⟩;obtain ⟨xs,n,_,_,hlen,hxl,hf⟩:=DataW.trod_struct ht h;obtain ⟨x,k1,k2,k3⟩:=hF.2 n cs xs (by omega) (by simpa using hxl) (fun i f hi=>hf i f (by simpa using hi));refine ⟨mk x,u9 x k1,?_,?_⟩
 ·rw [hc];simpa using k2
 ·simpa using k3
def RdA (enc:TypeId×Value→H) (P:Program) (w:World) {α:Type} (ts:List TypeId) (c:α→List AV) (ok:α→Prop):Prop:=
 ∀ (base:Nat) (vs:List Value) (ds:List (DataW H)) (ps:List MemPlace),DataW.TrodAll enc P w 0 (fun _=>true) true ts vs ds ps→
  (∀ (j:Nat) t v,ts[j]?=some t→vs[j]?=some v→Value.okWide P w .any base t v)→∃ x,ok x∧gZ w (F_ w) id Cv (c x) vs
theorem aaV:RdA enc P w [] (fun _:Unit=>[]) (fun _=>True):=fun base vs ds ps h _=>by
 cases vs<;>cases ds<;>first | exact ⟨(),trivial,.nil⟩ | exact h.elim
def ac5:TypeDesc→Bool
 | .int _ | .string | .bool | .slice _=>true
 | _=>false
theorem HQ {α β:Type} {t:TypeId} {d:TypeDesc} {ts:List TypeId} {c0:α→List AV} {ok0:α→Prop} {c1:β→List AV} {ok1:β→Prop} (ht:P.underlying t=some d) (hd:ac5 d=true) (h0:Rd enc P w t 1 c0 ok0) (h1:RdA enc P w ts c1 ok1):
  RdA enc P w (t::ts) (fun p:α×β=>c0 p.1++c1 p.2) (fun p=>ok0 p.1∧ok1 p.2):=by
 intro base vs ds ps h UG;cases vs with
 | nil=>cases ds<;>exact h.elim
 | cons v vs=>
  cases ds with
  | nil=>exact h.elim
  | cons d' ds=>
   obtain ⟨p,q,⟨fuel,h2⟩,h3,_⟩:=h;have hv:=UG 0 t v rfl rfl;have af_:v.cells.toList=[v]:=by
    cases v with
    | agg cs=>cases d<;>simp [ac5] at hd<;>simp [Value.okWide,ht,Cell.okWide,Cell.ok] at hv
    | _=>rfl
   rw [af_] at h2;obtain ⟨x,k1,k2,_⟩:=h0.2.2 _ _ _ h2;obtain ⟨y,q1,q2⟩:=h1 base vs ds q h3 (fun j t' v' Xy Iw=>UG (j+1) t' v' (by simpa using Xy) (by simpa using Iw));exact ⟨(x,y),⟨k1,q1⟩,gZ.app k2 q2⟩
theorem Mh {α β:Type} {t:TypeId} {fs:Array Field} {n:Nat} {ts:List TypeId} {c0:α→List AV} {ok0:α→Prop} {c1:β→List AV} {ok1:β→Prop} (ht:P.underlying t=some (.struct fs)) (h0:Rd enc P w t n c0 ok0) (h1:RdA enc P w ts c1 ok1):
  RdA enc P w (t::ts) (fun p:α×β=>.agg (c0 p.1)::c1 p.2) (fun p=>ok0 p.1∧ok1 p.2):=by
 intro base vs ds ps h UG;cases vs with
 | nil=>cases ds<;>exact h.elim
 | cons v vs=>
  cases ds with
  | nil=>exact h.elim
  | cons d' ds=>
   obtain ⟨p,q,⟨fuel,h2⟩,h3,_⟩:=h;have hv:=UG 0 t v rfl rfl;simp only [Value.okWide,ht] at hv;obtain ⟨cs,rfl,_,_⟩:=hv;obtain ⟨x,k1,k2,_⟩:=h0.2.2 _ _ _ h2;obtain ⟨y,q1,q2⟩:=h1 base vs ds q h3 (fun j t' v' Xy Iw=>UG (j+1) t' v' (by simpa using Xy) (by simpa using Iw));refine ⟨(x,y),⟨k1,q1⟩,.cons ?_ q2⟩;have:VR w (F_ w) id Cv (.agg (c0 x)) (.agg ⟨cs.toList⟩):=.qO k2;simpa using this
theorem aaU (h:w.ShapedOpen P) (hp:Nat.blt P.globals.size (begin P (fun _ _=>0) default).world.heap.size=true):0 < w.heap.size:=by
 obtain ⟨o,_,h1,_⟩:=h.2 P.globals.size (Nat.le_refl _) (by simpa [Nat.blt_eq] using hp);have:=(Array.getElem?_eq_some_iff.1 h1).1;omega
theorem Pos.bare {F:Nat→Prop} (h:0 < w.heap.size) (hl:SB=[]):Pos w F:=⟨h,fun p hp=>by rw [hl] at hp;cases hp⟩
theorem acB {F:Nat→Prop} (Yl:Pos w F) (hwf:∀ b,F b→b < w.heap.size):HR w F (fun _=>False) id (below 0) (sx []) (fun _ _=>False) where
 lt:=fun i hi=>absurd hi (Nat.not_lt_zero _)
 known:=fun i b hb=>by cases hb
 du:=fun i b hb=>by cases hb
 self:=fun i ⟨b,hb,_⟩=>by cases hb
 own:=fun i ⟨b,hb,_⟩=>by cases hb
 dj:=fun i j ⟨b,hb,_⟩=>by cases hb
 yl:=fun b hb=>hb.elim
 wf:=hwf
 qS:=fun b hb=>hb.elim
 pos:=Yl
def aaS (ps:List sA) (x:List cG):Option (List AV):=match instL id ps x with
 | some (as,[])=>some (di [] as)
 | _=>none
theorem abj {c:CT} {args:Array Value} {cs:List AV} (hc:aV P c) (x:xP (zN c.args++NB c.cE)) (o:Ej c.outs) (ho:xQ _ c.F x=some o) (hb:c.cE=[]) (C2:aaS c.args (ew _ x)=some cs)
  (Ls:fU c.outs o=(⟨false,.d .bool,[]⟩,[⟨.bool,true⟩])) (Yl:Pos w (F_ w)) (hv:gZ w (F_ w) id Cv cs args.toList):
  Calls P c.f args w fun e w'=>e=.returned (.bool true)∧Below w.heap.size w w':=by
 unfold aaS at C2;split at C2
 ·rename_i as h1;cases C2;have h:=hc x o ho as [] [] h1 (by rw [hb];rfl) (.d ⟨.bool,true⟩) [] [] (by rw [Ls];rfl) (by rw [Ls];rfl);rw [Ls,hb] at h;obtain ⟨_,_,h⟩:=h;have Iw:gZ w (F_ w) id (below 0) (di [] as) args.toList:=⟨hv.1,fun i hi=>(hv.2 i hi).up⟩;refine (h w (F_ w) (fun _=>False) id (fun _ _=>False) args.toList Iw (acB Yl fun b hb=>hb)).mono ?_
  rintro e w' ⟨v,F',O',aZ,bX,he,hvr,_,hf⟩
  have ahT:VR w' F' aZ (below 0) (.bool true) v:=hvr;refine ⟨by rw [he,← ahT.eR];rfl,hf.os,hf.tape,hf.output,hf.size,fun k hk=>hf.same k hk fun h=>h⟩
 ·cases C2
theorem KQ {W:World} {b:Nat} {sp:Nat→Bool} {hd:Bool}:∀ {ts:List TypeId} {vs:List Value} {ds:List (DataW H)} {ps:List MemPlace},DataW.TrodAll enc P W b sp hd ts vs ds ps→ds.length=ts.length
 | [],vs,ds,ps,h=>by cases vs<;>cases ds<;>first | rfl | exact h.elim
 | t::ts,vs,ds,ps,h=>by
  cases vs with
  | nil=>cases ds<;>exact h.elim
  | cons v vs=>
   cases ds with
   | nil=>exact h.elim
   | cons d ds=>
    obtain ⟨p,q,h2,h3,rfl⟩:=h;simp [KQ h3]
theorem MV (hl:laidOutB P=true) {W W':World} (hb:Below W.heap.size W W'):∀ {ts:List TypeId} {vs:List Value} {ds:List (DataW H)} {ps:List MemPlace},(ts.all fun t=>P.readableRec t&&Nat.blt t P.types.size)=true→
  DataW.TrodAll enc P W 0 (fun _=>true) true ts vs ds ps→(∀ x∈ps,x.block < W.heap.size)→DataW.TrodAll enc P W' 0 (fun b=>decide (b < W.heap.size)) true ts vs ds ps
 | [],vs,ds,ps,_,h,_=>by cases vs<;>cases ds<;>first | exact h | exact h.elim
 | t::ts,vs,ds,ps,hr,h,dY=>by
  cases vs with
  | nil=>cases ds<;>exact h.elim
  | cons v vs=>
   cases ds with
   | nil=>exact h.elim
   | cons d ds=>
    obtain ⟨p,q,h2,h3,rfl⟩:=h;simp only [List.all_cons,Bool.and_eq_true] at hr;exact ⟨p,q,Below.trod hl hr.1.1 (by simpa [Nat.blt_eq] using hr.1.2) h2 hb (fun x hx=>dY x (List.mem_append_left _ hx)),
     MV hl hb hr.2 h3 (fun x hx=>dY x (List.mem_append_right _ hx)),rfl⟩
end
end Go.Proofs.YtjkbbdldmdajkaaGreatDoor.c5
