/- errors.As's contract. No condition. -/
import Derived.Test.YtjkbbdldmdajkaaGreatDoorFnFd
import Derived.Test.YtjkbbdldmdajkaaGreatDoorPhAs
namespace Go.Proofs.YtjkbbdldmdajkaaGreatDoor.Fn
open Go Go.RowKit Go.Proofs.YtjkbbdldmdajkaaGreatDoor.c5
theorem ae3 (bB:Nat) (e:Nat→AV) {H H':Hp} (hH:∀ id,H id=if id=0 then some (.box [.top]) else none) (hH':∀ id,H' id=if id=0 then some (.box [.fp bB e 0]) else none):
  GC Tryz.prog 221 1 [.oR 263 (.fp bB e 0),.oR 267 (.bp 0 0)] H (.ret (.bool true)) 1 H':=by
 refine ⟨Nat.le_refl _,Tryz.call221,fun w F O μ ft gp hv hr=>?_⟩;obtain ⟨u1,r1,rfl,Ja,hvr⟩:=hv.cons_inv;obtain ⟨u2,r2,rfl,hv2,agL⟩:=hvr.cons_inv;obtain rfl:=agL.gY;obtain ⟨p1,rfl,hp1⟩:=Ja.BH;obtain ⟨p2,rfl,hp2⟩:=hv2.BH;have agM:=hp1;have e0:H 0=some (.box [.top]):=hH 0;cases hp1 with
 | fp _ _ off b o u hF hu hcv=>
  cases hp2 with
  | bp id off bZ=>
   have hl:H.live 0:=⟨.box [.top],e0,rfl⟩;obtain ⟨ob,po,cs,t,rfl,hS,hlen,_⟩:=hr.du 0 (.box [.top]) e0 rfl;have fh:0 < cs.size:=hlen;have hg:w.cell? ⟨0,0,none⟩=some (.iface 296 (.agg #[.pointer (some ⟨1,250,none⟩)])):=hr.pos.cell (g:=0) (i:=0) (cs:=[.iface 296 (.agg #[.pointer (some ⟨1,250,none⟩)])]) (by simp [SB]);have ht0:w.cell? ⟨μ 0,0,none⟩=some cs[0]:=by
    unfold World.cell?;simp only [po,Option.isSome_none,Bool.false_eq_true,if_false];exact Array.getElem?_eq_getElem fh
   have hf0:w.frozen? ⟨μ 0,0,none⟩=false:=by
    unfold World.frozen?;simp [po]
   refine (adD ⟨b,o,none⟩ ⟨μ 0,0,none⟩ cs[0] w hg ht0 hf0).mono ?_
   rintro en w' ⟨rfl,rfl⟩
   generalize hw4:(((w.alloc (.cells #[.pointer (some ⟨μ 0,0,none⟩)] 267)).alloc (.cells #[.pointer (some ⟨1,267,none⟩),.pointer (some ⟨w.heap.size,0,none⟩),.int .u64 150] 278)).alloc (.cells #[.pointer (some ⟨1,267,none⟩),.pointer (some ⟨w.heap.size,0,none⟩),.int .u64 150] 278)).alloc (.cells #[.pointer (some ⟨b,o,none⟩)] 263)=w4;have g:Gw w w4:=by
    rw [← hw4];exact (((Gw.alloc _ _).trans (Gw.alloc _ _)).trans (Gw.alloc _ _)).trans (Gw.alloc _ _)
   have hr4:=hr.gw g;have ae4:w4.heap[μ 0]?=some (.cells cs t (0,0)):=(g.same _ (hr.lt 0 (hr.qg hl))).trans po;have hv4:VR w4 F μ (below 1) (.fp bB e 0) (.pointer (some ⟨b,o,none⟩)):=agM.step hr g.fr (fun _ h=>h);rw [Ia ae4];obtain ⟨O',bX,k1,k2⟩:=lV (N:=0) (L:=[]) (S:=ft 0) (o':=.cells (cs.setIfInBounds 0 (.pointer (some ⟨b,o,none⟩))) t (0,0)) (b':=.box [.fp bB e 0]) hr4 e0 rfl ae4 (by simp [sameShape]) (by simp) (fun x hx=>⟨0,.inl rfl,hl,hx⟩) (hr4.self 0 hl)
    ⟨_,t,rfl,hS,by simpa using hlen,fun j hj=>by
     have ej:j=0:=by simpa using hj
     subst ej;simpa [fh] using hv4⟩
   refine ⟨.bool true,F,O',μ,bX,rfl,.bool _,?_,g.fr.trans k2⟩;have eH:H.c_ ((0,some (.box [.fp bB e 0]))::gA [])=H':=by
    funext id;rw [hH' id];show (if id=0 then _ else H id)=_;by_cases h:id=0
    ·rw [if_pos h,if_pos h]
    ·rw [if_neg h,if_neg h,hH id,if_neg h]
   rw [eH] at k1;exact k1
theorem Qk (k:Nat):aV Tryz.prog (Kw k):=by
 rintro ⟨x,_⟩ o ho al l H h1 h2 v r H' h3 h4
 cases ho;cases h1;cases h2;cases h3;cases h4;refine ae3 _ _ (fun id=>?_) (fun id=>?_)
 ·cases id with
  | zero=>rfl
  | succ n=>rfl
 ·cases id with
  | zero=>rfl
  | succ n=>rfl
end Go.Proofs.YtjkbbdldmdajkaaGreatDoor.Fn
