/- errors.As's contract. No condition. -/
import Derived.Test.YtljfmaaadnoggaaGreatDoorFnFd
import Derived.Test.YtljfmaaadnoggaaGreatDoorPhAs
namespace Go.Proofs.YtljfmaaadnoggaaGreatDoor.Fn
open Go Go.RowKit Go.Proofs.YtljfmaaadnoggaaGreatDoor.cX
theorem ahw (bB:Nat) (e:Nat→AV) {H H':Hp} (hH:∀ id,H id=if id=0 then some (.box [.top]) else none) (hH':∀ id,H' id=if id=0 then some (.box [.fp bB e 0]) else none):
  GC Tryz.prog 183 1 [.pe 224 (.fp bB e 0),.pe 228 (.bp 0 0)] H (.ret (.bool true)) 1 H':=by
 refine ⟨Nat.le_refl _,Tryz.call183,fun w F O μ ft td hv hr=>?_⟩
 obtain ⟨u1,r1,rfl,LG,hvr⟩:=hv.cons_inv
 obtain ⟨u2,r2,rfl,hv2,ajc⟩:=hvr.cons_inv
 obtain rfl:=ajc.iH
 obtain ⟨p1,rfl,hp1⟩:=LG.Dm
 obtain ⟨p2,rfl,hp2⟩:=hv2.Dm
 have ajd:=hp1
 have e0:H 0=some (.box [.top]):=hH 0
 cases hp1 with
 | fp _ _ off b o u hF hu hcv=>
  cases hp2 with
  | bp id off cb=>
   have hl:H.live 0:=⟨.box [.top],e0,rfl⟩
   obtain ⟨ob,qR,cs,t,rfl,hS,hlen,_⟩:=hr.dw 0 (.box [.top]) e0 rfl
   have fL:0 < cs.size:=hlen
   have hg:w.cell? ⟨0,0,none⟩=some (.iface 259 (.agg #[.pointer (some ⟨1,209,none⟩)])):=hr.pos.cell (g:=0) (i:=0) (cs:=[.iface 259 (.agg #[.pointer (some ⟨1,209,none⟩)])]) (by simp [VA])
   have ht0:w.cell? ⟨μ 0,0,none⟩=some cs[0]:=by
    unfold World.cell?
    simp only [qR,Option.isSome_none,Bool.false_eq_true,if_false]
    exact Array.getElem?_eq_getElem fL
   have hf0:w.frozen? ⟨μ 0,0,none⟩=false:=by
    unfold World.frozen?
    simp [qR]
   refine (afP ⟨b,o,none⟩ ⟨μ 0,0,none⟩ cs[0] w hg ht0 hf0).mono ?_
   rintro en w' ⟨rfl,rfl⟩
   generalize hw4:(((w.alloc (.cells #[.pointer (some ⟨μ 0,0,none⟩)] 228)).alloc (.cells #[.pointer (some ⟨1,228,none⟩),.pointer (some ⟨w.heap.size,0,none⟩),.int .u64 150] 241)).alloc (.cells #[.pointer (some ⟨1,228,none⟩),.pointer (some ⟨w.heap.size,0,none⟩),.int .u64 150] 241)).alloc (.cells #[.pointer (some ⟨b,o,none⟩)] 224)=w4
   have g:Gw w w4:=by
    rw [← hw4]
    exact (((Gw.alloc _ _).trans (Gw.alloc _ _)).trans (Gw.alloc _ _)).trans (Gw.alloc _ _)
   have hr4:=hr.gw g
   have ahx:w4.heap[μ 0]?=some (.cells cs t (0,0)):=(g.same _ (hr.lt 0 (hr.qS hl))).trans qR
   have hv4:VR w4 F μ (below 1) (.fp bB e 0) (.pointer (some ⟨b,o,none⟩)):=ajd.step hr g.fr (fun _ h=>h)
   rw [KH ahx]
   obtain ⟨O',b8,k1,k2⟩:=ma (N:=0) (L:=[]) (S:=ft 0) (o':=.cells (cs.setIfInBounds 0 (.pointer (some ⟨b,o,none⟩))) t (0,0)) (b':=.box [.fp bB e 0]) hr4 e0 rfl ahx (by simp [sameShape]) (by simp) (fun x hx=>⟨0,.inl rfl,hl,hx⟩) (hr4.self 0 hl)
    ⟨_,t,rfl,hS,by simpa using hlen,fun j hj=>by
     have ej:j=0:=by simpa using hj
     subst ej
     simpa [fL] using hv4⟩
   refine ⟨.bool true,F,O',μ,b8,rfl,.bool _,?_,g.fr.trans k2⟩
   have eH:H.c_ ((0,some (.box [.fp bB e 0]))::gX [])=H':=by
    funext id
    rw [hH' id]
    show (if id=0 then _ else H id)=_
    by_cases h:id=0
    ·rw [if_pos h,if_pos h]
    ·rw [if_neg h,if_neg h,hH id,if_neg h]
   rw [eH] at k1
   exact k1
theorem SS (k:Nat):aV Tryz.prog (M7 k):=by
 rintro ⟨x,_⟩ o ho al l H h1 h2 v r H' h3 h4
 cases ho
 cases h1
 cases h2
 cases h3
 cases h4
 refine ahw _ _ (fun id=>?_) (fun id=>?_)
 ·cases id with
  | zero=>rfl
  | succ n=>rfl
 ·cases id with
  | zero=>rfl
  | succ n=>rfl
end Go.Proofs.YtljfmaaadnoggaaGreatDoor.Fn
