/-
  The document's chain at the end of a cycle.
  The document's chain: a block is baked.
  The document's chain: whose turn it is bakes.
-/
import Derived.Test.YtajnfkmkombajacGreatDoorQPA35
import Derived.Test.YtajnfkmkombajacGreatDoorQPA21
import Derived.Deep.DeepCutAuto
import Derived.Deep.CutBlock
import Derived.Deep.LoopGhost
import Derived.Deep.Onto
import Derived.Test.YtajnfkmkombajacGreatDoorQPA22
import Derived.Test.YtajnfkmkombajacGreatDoorQPA24
set_option linter.unusedVariables false
set_option linter.unusedSimpArgs false
set_option linter.unusedVariables false
namespace Go.Proofs.YtajnfkmkombajacGreatDoor
open Go.RowKit Go.Maps

section
variable {W w w' w1 w3 : World} {F : Nat → Prop} {cb sd : Nat} {K : RChL} {x y : CS} {Z : List (List Int)} {v : Value} {D : List (Int × EV)}
/-- the document's chain, and the cases that were due beside it -/
structure REndS (W : World) (F : Nat → Prop) (cb : Nat) (K : RChL) (sd : Nat) (x : CS) (Z : List (List Int)) (v : Value) (D : List (Int × EV)) (w : World) : Prop where
  go : RChGo W F cb K sd x Z w
  row : w.ownsRow 0 213 4 v D.length (casesE D)
  inK : ∀ g, v.ownBlock = some g → K.Fk g
theorem REndS.below (h : REndS W F cb K sd x Z v D w) (b : Below w.heap.size w w') : REndS W F cb K sd x Z v D w' := ⟨h.go.below b, ownsRow_other h.row (fun g hg => b.block g (h.row.lt g hg).2), h.inK⟩
theorem REndS.purse (h : REndS W F cb K sd x Z v D w) {p : PS} (k : RPurseP K.pb K.hb p w w') : REndS W F cb K sd { x with p := p } Z v D w' :=
  ⟨h.go.purse k, ownsRow_other h.row (fun g hg => k.1.block g (h.row.lt g hg).2 (fun e => (h.go.ch.d1 g e).2.1 (h.inK g hg))), h.inK⟩
theorem REndS.stakes (h : REndS W F cb K sd x Z v D w) {s : SS} (k : RStP K.sb K.Fs s w w') : REndS W F cb (K.withS w w') sd { x with s := s } Z v D w' :=
  ⟨h.go.stakes k, ownsRow_other h.row (fun g hg => k.1.block g (h.row.lt g hg).2 (fun e => (h.go.ch.d2 g e).1 (h.inK g hg))), h.inK⟩
/-- the pictures' slice and blocks alone have turned -/
theorem RChGo.pics (h : RChGo W F cb K sd x Z w) {G : Nat → Prop} (k : Keep G w w3) (hG : ∀ b, G b → K.Fp b) {pv2 : Value} {Z2 : List (List Int)} (hp : PicsAt (grownF K.Fp w w3) pv2 Z2 (w3.setCell ⟨cb, 7, none⟩ pv2)) :
    RChGo W F cb { K with Fp := grownF K.Fp w w3, pv := pv2 } sd x Z2 (w3.setCell ⟨cb, 7, none⟩ pv2) := by
  have c := h.ch
  have k5 : Keep (fun b => G b ∨ b = cb) w (w3.setCell ⟨cb, 7, none⟩ pv2) := (k.mono (fun b hb => .inl hb)).setCell (p := ⟨cb, 7, none⟩) (.inl (.inr rfl)) pv2
  have hs : (w3.setCell ⟨cb, 7, none⟩ pv2).heap.size = w3.heap.size := by simp [World.setCell]
  have hcb := c.row.lt
  have hrow : RowAt cb 77 (rchainVs K sd x) w3 := c.row.keep k (fun e => c.d0.2.2.2.2 (hG _ e))
  have far : ∀ b, b = K.pb ∨ b = K.hb → ¬ (G b ∨ b = cb) := fun b hb e => by
    rcases e with e | e
    · exact (c.d1 b hb).2.2 (hG _ e)
    · rcases hb with hb | hb
      · exact c.d0.1 (by rw [← e, hb])
      · exact c.d0.2.1 (by rw [← e, hb])
  refine h.step k5 (fun b hb => ?_) ⟨hrow.set 7 pv2, c.purse.keep k5 (far _ (.inl rfl)) (far _ (.inr rfl)), c.st.keep k5 (fun b hb e => ?_), c.ct.keep k5 (fun b hb e => ?_), hp, fun b hb => ?_, ⟨c.d0.1, c.d0.2.1, c.d0.2.2.1, c.d0.2.2.2.1, ?_⟩, fun b hb => ⟨(c.d1 b hb).1, (c.d1 b hb).2.1, ?_⟩, fun b hb => ⟨(c.d2 b hb).1, ?_⟩, fun b hb => ?_⟩ (fun b hb => ?_)
  · rcases hb with hb | hb
    · exact .inr (.inr (.inr (.inr (.inr (hG b hb)))))
    · exact .inl hb
  · rcases e with e | e
    · exact (c.d2 b hb).2 (hG b e)
    · exact c.d0.2.2.1 (by rw [← e]; exact hb)
  · rcases e with e | e
    · exact c.d3 b hb (hG b e)
    · exact c.d0.2.2.2.1 (by rw [← e]; exact hb)
  · rw [hs]
    rcases hb with hb | hb
    · exact Nat.lt_of_lt_of_le (c.pl b hb) k.size
    · exact hb.2
  · rintro (e | e)
    · exact c.d0.2.2.2.2 e
    · omega
  · have hlt := c.purse.two hb
    rintro (e | e)
    · exact (c.d1 b hb).2.2 e
    · have := e.1; omega
  · rintro (e | e)
    · exact (c.d2 b hb).2 e
    · have := c.st.lt b hb; omega
  · rintro (e | e)
    · exact c.d3 b hb e
    · have := c.ct.lt b hb; omega
  · rcases hb with hb | hb | hb | hb | hb | hb
    · exact .inl (.inl hb)
    · exact .inl (.inr (.inl hb))
    · exact .inl (.inr (.inr (.inl hb)))
    · exact .inl (.inr (.inr (.inr (.inl hb))))
    · exact .inl (.inr (.inr (.inr (.inr (.inl hb)))))
    · rcases hb with hb | hb
      · exact .inl (.inr (.inr (.inr (.inr (.inr hb)))))
      · exact .inr ⟨hb.1, by rw [hs]; exact hb.2⟩
end
theorem RChGo.like {W w : World} {F : Nat → Prop} {cb sd : Nat} {K : RChL} {x y : CS} {Z : List (List Int)} (h : RChGo W F cb K sd x Z w) (h1 : y.p = x.p) (h2 : y.s = x.s) (h3 : y.k = x.k) (h4 : y.cycle = x.cycle) (h5 : y.level = x.level) (h6 : y.bonus = x.bonus) : RChGo W F cb K sd y Z w := by
  obtain ⟨a, ⟨b1, b2, b3, b4, b5, b6, b7, b8, b9, b10⟩, c, d⟩ := h
  refine ⟨a, ⟨?_, by rw [h1]; exact b2, by rw [h2]; exact b3, by rw [h3]; exact b4, b5, b6, b7, b8, b9, b10⟩, c, d⟩
  have : rchainVs K sd y = rchainVs K sd x := by unfold rchainVs; rw [h4, h5, h6]
  rw [this]; exact b1
/-- has a picture weight among its first k? -/
def heavyK (l : List Int) (k : Nat) : Bool := (l.take k).any fun n => decide (0 < n)
theorem heavyK_step {l : List Int} {k : Nat} {n : Int} (h : l[k]? = some n) : heavyK l (k + 1) = (heavyK l k || decide (0 < n)) := by
  unfold heavyK; rw [List.take_add_one, h]; simp
theorem heavyK_pic {s : SS} (h : s.Ok) : heavyK s.picture 3 = false ↔ s.picture = [0, 0, 0] := by
  obtain ⟨h0, h1, h2, _⟩ := SS.staked_bd h
  have p0 := pic1_bd _ h0; have p1 := pic1_bd _ h1; have p2 := pic1_bd _ h2
  unfold heavyK SS.picture
  generalize pic1 (s.staked 0) = a at *
  generalize pic1 (s.staked 1) = b at *
  generalize pic1 (s.staked 2) = c at *
  simp
  omega

theorem CS.endOp_of' {x y : CS} (h : { x.judged with k := x.k.asked } = y) : x.endOp = { y with bonus := bonusN y.bonus y.ratio, cycle := y.cycle + 1, pics := y.pics.drop 1 ++ [y.newPic] } ∧ x.judged.newPic = y.newPic := by subst h; exact ⟨rfl, rfl⟩
section
variable (W : World) (F : Nat → Prop) (cb : Nat) (K : RChL) (sd : Nat) (x : CS) (Z : List (List Int)) (w : World)
set_option maxRecDepth 8000 in
set_option maxHeartbeats 4000000 in
theorem refc_end (h : RChGo W F cb K sd x Z w) (hx : x.Inv) (hz : PicsOf x Z) (hW : x.s.W.length ≤ 8000) (hk : x.k.L.length ≤ 1000000) (hcy : x.cycle ≤ 1048577) :
    Calls Tryz.prog 177 #[.pointer (some ⟨cb, 0, none⟩)] w fun e w' => e = .returned (.tuple #[]) ∧ ∃ K' Z', RChGo W F cb K' sd x.endOp Z' w' ∧ PicsOf x.endOp Z' := by
  have H0 := Lib.hid h
  have HX := Lib.hid hx
  have HPZ := Lib.hid hz
  have c2 := h.c2
  have hdl : x.k.due.length ≤ 1000000 := by unfold KS.due; rw [List.length_drop]; omega
  clear h hx hz
  go_enter Tryz.func177, Tryz.ntmps177
  go_wp2_with fail
  refine (ref_CourtDue K.kb K.Fk x.k _ H0.out.ch.ct hk).mono ?_
  rintro e w1 ⟨v, rfl, ho, hK, hc⟩
  have HS0 := Lib.hid (show REndS W F cb (K.withK w w1) sd { x with k := x.k.asked } Z v x.k.due w1 from
    ⟨H0.out.court ⟨hK, hc.foot (fun _ hb => .inl hb) (grownF_lt (fun _ hb => H0.out.ch.ct.lt _ hb) hK.size)⟩, (show w1.ownsRow 0 213 4 v x.k.due.length (casesE x.k.due) from ⟨ho.1, ho.2.imp id (fun ⟨g, cap, cur, h1, _, h3⟩ => ⟨g, cap, cur, h1, Nat.zero_le _, h3⟩)⟩), fun g hg => .inr (World.ownsRow.lt ho g hg)⟩)
  obtain ⟨va, vc, rfl⟩ := own_shape ho
  clear ho hK hc c2
  go_wp2_with fail
  go_loopg [3] x.k.due.length (fun g i wr => ∃ (j : Nat) (K' : RChL), g + j = x.k.due.length ∧ i = .int .i64 j ∧ REndS W F cb K' sd (x.judgedK j) Z (.slice va x.k.due.length vc) x.k.due wr)
  case atStart => exact ⟨0, _, rfl, rfl, HS0.out⟩
  case round =>
    clear HS0
    obtain ⟨j, K1, hg, rfl, hs⟩ := hrel
    have HS := Lib.hid hs; have HG := Lib.hid hg; clear hs hg
    by_cases hj : j < x.k.due.length
    · obtain ⟨c, hc⟩ : ∃ c, x.k.due[j]? = some c := ⟨_, List.getElem?_eq_getElem hj⟩
      obtain ⟨b7, off7, rfl, hbl7, hcs7⟩ := (RdR.of_row (enc := caseE) (fun _ => rfl) (by decide) HS.out.row).cells j c hc
      have htc := (RdR.of_row (enc := caseE) (fun _ => rfl) (by decide) HS.out.row).lc
      have htm := (RdR.of_row (enc := caseE) (fun _ => rfl) (by decide) HS.out.row).cm
      have HCELL := Lib.hid (fun K' x' wx (hs : REndS W F cb K' sd x' Z (.slice (some ⟨b7, off7, none⟩) x.k.due.length vc) x.k.due wx) => show wx.cell? ⟨b7, off7 + j * 4, none⟩ = some (.int .i64 c.1) ∧ wx.cell? ⟨b7, off7 + j * 4 + 1, none⟩ = some (.int .i64 c.2.b) ∧ wx.cell? ⟨b7, off7 + j * 4 + 2, none⟩ = some (.int .i64 c.2.c) ∧ wx.cell? ⟨b7, off7 + j * 4 + 3, none⟩ = some (.int .i64 c.2.n) by
        obtain ⟨b, off, e, -, hcs⟩ := (RdR.of_row (enc := caseE) (fun _ => rfl) (by decide) hs.row).cells j c hc
        cases e
        exact ⟨hcs 0 (by decide), hcs 1 (by decide), hcs 2 (by decide), hcs 3 (by decide)⟩)
      have HSTEP := Lib.hid (CS.judgedK_step x j c hc)
      have HZ := Lib.hid (CS.judgedK_inv HX.out j)
      have HZW := Lib.hid (show (x.judgedK j).s.W.length ≤ 8000 by rw [CS.judgedK_len]; exact hW)
      have hn0 := (HX.out.known c (List.mem_of_mem_drop (List.mem_of_getElem? hc))).2.2
      obtain ⟨l1, l2, -⟩ := SS.slash_total HZ.out.s c.2.b c.2.c (pct c.2.n)
      have tb := HZ.out.s.total_bd
      have tb2 : (x.judgedK j).s.total ≤ 1125899906842624 := by have := HZ.out.bal; have := HZ.out.p.most; have := HZ.out.p.sum_bd; omega
      have tb3 := (SS.slashOp_ok HZ.out.s c.2.b c.2.c (pct c.2.n)).total_bd.1
      have hlost : 0 ≤ ((x.judgedK j).s.slashOp c.2.b c.2.c (pct c.2.n)).1 ∧ ((x.judgedK j).s.slashOp c.2.b c.2.c (pct c.2.n)).1 ≤ 1125899906842624 := by omega
      have HLO := Lib.hid hlost
      obtain ⟨t0, t1, t2, t3⟩ := HCELL.out _ _ _ HS.out
      clear hcs7 hc l1 l2 tb tb2 tb3 hlost
      generalize x.judgedK j = z at *
      generalize x.k.due.length = dl at *
      unfold maxLen at htm
      have hji : (j : Int) < (dl : Int) := by omega
      have hj0 : (0 : Int) ≤ (j : Int) := by omega
      have em : c.2.n.tmod 2 = c.2.n % 2 := Int.tmod_eq_emod_of_nonneg hn0
      have hcs : ((c.2.n.tmod 2 == 0) = true ∧ (c.2.n % 2 == 0) = true ∧ pct c.2.n = 5) ∨ ((c.2.n.tmod 2 == 0) = false ∧ (c.2.n % 2 == 0) = false ∧ pct c.2.n = 50) := by
        by_cases hm : c.2.n.tmod 2 = 0
        · exact .inl ⟨by simp [hm], by rw [← em]; simp [hm], if_pos hm⟩
        · exact .inr ⟨by simp [hm], by rw [← em]; simp [hm], if_neg hm⟩
      obtain ⟨res, hres⟩ : ∃ res, z.s.slashOp c.2.b c.2.c (pct c.2.n) = res := ⟨_, rfl⟩
      have hlo := HLO.out
      rw [hres] at hlo
      have hjj : z.judge c = { z with s := res.2.2, p := ((z.p.inOp c.1 (res.1 / 7)).2.burnOp (res.1 - res.1 / 7)).2 } := by rw [← hres]; rfl
      have hsl : ∀ wx (_ : REndS W F cb K1 sd z Z (.slice (some ⟨b7, off7, none⟩) dl vc) x.k.due wx), Calls Tryz.prog 76 #[.pointer (some ⟨K1.sb, 0, none⟩), .int .i64 c.2.b, .int .i64 c.2.c, .int .i64 (pct c.2.n)] wx fun e w' => e = .returned (.tuple #[.int .i64 res.1, .int .i64 res.2.1]) ∧ RStP K1.sb K1.Fs res.2.2 wx w' := fun wx hs => by
        have := refs_Slash K1.sb K1.Fs z.s wx c.2.b c.2.c (pct c.2.n) hs.go.ch.st HZW.out
        rw [hres] at this; exact this
      obtain ⟨lost, sc, st⟩ := res
      simp only at hlo hjj hsl
      obtain ⟨ls0, ls1⟩ := hlo
      have dv : lost.tdiv 7 = lost / 7 := Int.tdiv_eq_ediv_of_nonneg ls0
      have hla : 0 ≤ lost / 7 ∧ lost / 7 ≤ lost := by omega
      generalize lost / 7 = la at *
      obtain ⟨la0, la1⟩ := hla
      have hw1 : IntKind.i64.wrap la = la := IntWalk.i64_in _ ⟨by omega, by omega⟩
      have hw2 : IntKind.i64.wrap (lost - la) = lost - la := IntWalk.i64_in _ ⟨by omega, by omega⟩
      have HSL := Lib.hid hsl; have HJ := Lib.hid hjj
      have HSD := Lib.hid (fun i => HS.out.below ((Below.refl _ _).drewN i))
      clear hsl hjj hres ls0 ls1 la0 la1
      have e1 := HS.out.go.c1
      clear em hn0
      rcases hcs with ⟨m1, m2, hp⟩ | ⟨m1, m2, hp⟩
      all_goals
        rw [hp] at HSL
        clear hp
        go_wp2_with fail
        go_region_held3 (fun wx => wx.cell? ⟨cb, 1, none⟩ = some (.pointer (some ⟨K1.sb, 0, none⟩)) ∧ wx.cell? ⟨b7, off7 + j * 4 + 1, none⟩ = some (.int .i64 c.2.b) ∧ wx.cell? ⟨b7, off7 + j * 4 + 2, none⟩ = some (.int .i64 c.2.c)) (first | exact ⟨H1.out.go.c1, (HCELL.out _ _ _ H1.out).2.1, (HCELL.out _ _ _ H1.out).2.2.1⟩ | exact ⟨e1, t1, t2⟩)
          ((go_at_call 76; refine (HSL.out _ (HSD.out 1)).mono ?_; rintro y w2 ⟨rfl, ka⟩; have H1 := Lib.hid ((HSD.out 1).stakes ka)))
        clear e1 t0 t1 t2 t3
        have h1 := H1.out
        generalize K1.withS (World.drewN _ _) _ = K2 at h1
        have HK := Lib.hid h1; clear h1 H1
        have e0 := HK.out.go.c0
        obtain ⟨t0, t1, t2, t3⟩ := HCELL.out _ _ _ HK.out
        have HD1 := Lib.hid (fun i => HK.out.below ((Below.refl _ _).drewN i))
        have HIN := Lib.hid (refp_In K2.pb K2.hb z.p c.1 la _ (HD1.out 1).go.ch.purse)
        go_wp2_with fail
        go_region_held3 (fun wx => wx.cell? ⟨cb, 0, none⟩ = some (.pointer (some ⟨K2.pb, 0, none⟩)) ∧ wx.cell? ⟨b7, off7 + j * 4, none⟩ = some (.int .i64 c.1)) (first | exact ⟨H2.out.go.c0, (HCELL.out _ _ _ H2.out).1⟩ | exact ⟨e0, t0⟩)
          ((go_at_call 172; refine HIN.out.mono ?_; rintro y w3 ⟨rfl, ka⟩; have H2 := Lib.hid ((HD1.out 1).purse ka)))
        clear e0 t0 t1 t2 t3
        have e0 := H2.out.go.c0
        go_wp2_with fail
        refine (refp_Burn K2.pb K2.hb (z.p.inOp c.1 la).2 (lost - la) _ H2.out.go.ch.purse).mono ?_
        rintro y w4 ⟨rfl, ka⟩
        have H3 := Lib.hid (H2.out.purse ka); clear ka
        have HN := Lib.hid (show x.judgedK (j + 1) = { z with s := st, p := ((z.p.inOp c.1 la).2.burnOp (lost - la)).2 } by rw [HSTEP.out, HJ.out])
        go_wp2_with fail
        have hg := HG.out
        go_roundg (dl - (j + 1))
        case measure => omega
        case rel => exact ⟨j + 1, _, by omega, by go_num, by rw [HN.out]; exact H3.out⟩
    · have hjd : j = x.k.due.length := by have := HG.out; omega
      have HJA := CS.judgedK_all x
      rw [← hjd] at HJA
      obtain ⟨y, hy⟩ : ∃ y : CS, { x.judged with k := x.k.asked } = y := ⟨_, rfl⟩
      have HY := Lib.hid (CS.endOp_of' hy)
      have hyc : y.cycle = x.cycle := by rw [← hy]; exact (CS.judged_pics x).2
      have hyp : y.pics = x.pics := by rw [← hy]; exact (CS.judged_pics x).1
      rw [hy] at HJA
      have hgo := HS.out.go
      have hinv := CS.judgedK_inv HX.out j
      rw [HJA] at hgo hinv
      have H1 := Lib.hid hgo
      have HI := Lib.hid hinv
      have HYZ := Lib.hid (HPZ.out.same hyc hyp)
      have hdj := HG.out
      rw [← hyc] at hcy
      obtain ⟨ra0, ra1⟩ := CS.ratio_bd hinv
      have hro : rateOk y.ratio y.bonus := ⟨ra0, ra1, hinv.b0, hinv.b1⟩
      clear hgo hinv HS HJA hjd hy hyc hyp ra0 ra1
      have e6 := H1.out.c6
      go_upto_region 11 with fail
      go_cut [79] (fun _ wx => RChGo W F cb K1 sd { y with bonus := bonusN y.bonus y.ratio } Z wx)
      case first =>
        have HRT := Lib.hid (refc_ratio W F cb K1 sd y Z (wr.drewN 1) (H1.out.drewN 1) HI.out)
        go_region_with (first
          | (go_at_call 175; refine HRT.out.mono ?_; rintro e w2 ⟨rfl, d1⟩; have HA := Lib.hid ((H1.out.drewN 1).dr d1); have q6 := HA.out.c6; have f6 := HA.out.ch.row.frozen 6)
          | (go_at_call 211; refine (ref_BonusOf y.bonus y.ratio _ hro).mono ?_; rintro e w3 ⟨rfl, rfl⟩))
        all_goals go_wp2_with fail
        all_goals go_meet
        all_goals (case rel => exact HA.out.put (i := 6) rfl rfl rfl rfl)
      case rest =>
        have H2 := Lib.hid hcut; clear hcut e6 H1
        have e4 := H2.out.c4; have f4 := H2.out.ch.row.frozen 4
        simp only at e4
        have hcy0 := HI.out.cy
        have H3 := Lib.hid (H2.out.put (i := 4) (v := .int .i64 (y.cycle + 1)) (y := { y with bonus := bonusN y.bonus y.ratio, cycle := y.cycle + 1 }) rfl rfl rfl rfl)
        have e1 := H3.out.c1
        go_wp2_with fail
        refine (refs_PictureOf K1.sb K1.Fs y.s _ H3.out.ch.st).mono ?_
        rintro e w2 ⟨pa0, pc0, rfl, hrow, hb2⟩
        obtain ⟨y2, hy2⟩ : ∃ y2 : CS, { y with bonus := bonusN y.bonus y.ratio, cycle := y.cycle + 1 } = y2 := ⟨_, rfl⟩
        have HEQ := Lib.hid (show x.endOp.p = y2.p ∧ x.endOp.s = y2.s ∧ x.endOp.k = y2.k ∧ x.endOp.cycle = y2.cycle ∧ x.endOp.level = y2.level ∧ x.endOp.bonus = y2.bonus by rw [HY.out.1, ← hy2]; exact ⟨rfl, rfl, rfl, rfl, rfl, rfl⟩)
        have h3 := H3.out
        rw [hy2] at h3
        have H3' := Lib.hid h3
        clear h3 hy2 e1 e4 f4 hcy0 H2 H3
        generalize wc.setCell ⟨cb, 4, none⟩ (.int .i64 (y.cycle + 1)) = wx at *
        have H4 := Lib.hid (H3'.out.below hb2)
        have HBW := Lib.hid hb2
        obtain ⟨vs, o1w, o2, o3⟩ := H3'.out.ch.pics.own
        have o1 := o1w.keep (Keep.of_below (F := fun _ => False) hb2) (fun _ _ => id)
        have oblk := H3'.out.ch.pics.blk
        obtain ⟨ci, hci⟩ := Int.eq_ofNat_of_zero_le HYZ.out.cy
        have hzl := HYZ.out.len
        have hz2 := HYZ.out.get (k := 2) (by decide)
        rw [hci, Int.toNat_natCast] at hzl hz2
        have hci2 : ci ≤ 1048577 := by omega
        obtain ⟨g, off, cp, hv, -, hgl, hcp, hcm, hcell⟩ := o1.cells (by rw [o2, hzl]; omega)
        rw [o2, hzl] at hv hcp hcell
        have hvz : vs[ci + 2]? = some (vs[ci + 2]'(by rw [o2, hzl]; omega)) := List.getElem?_eq_getElem _
        obtain ⟨qa, qc, qe, QR, qb⟩ := o3 (ci + 2) _ _ hvz hz2
        have h2c := hcell (ci + 2) (by omega)
        rw [hvz, qe] at h2c
        have e7 := H4.out.c7
        rw [hv] at e7
        have HVV := Lib.hid hv
        have HQ := Lib.hid (And.intro (QR.below hb2) qb); clear QR qb qe
        have HO1 := Lib.hid o1; have HO3 := Lib.hid o3; have HOB := Lib.hid oblk; have HO2 := Lib.hid o2
        have HRD := Lib.hid (RdI.of_own hrow)
        have HPN := Lib.hid (fun a (ha : pa0 = some a) => hrow.lt a.block (by rw [ha]; rfl))
        have HPM := Lib.hid (heavyK_pic HI.out.s)
        have HNP := Lib.hid (show x.judged.newPic = (if y.s.picture = [0, 0, 0] then y.pics.getD 2 [] else y.s.picture) from HY.out.2)
        have HPZL := Lib.hid hzl
        have HPE := Lib.hid HPZ.out.end
        have hpl : y.s.picture.length = 3 := rfl
        have HST := Lib.hid (fun k n (hn : y.s.picture[k]? = some n) => heavyK_step hn)
        have hz3 : heavyK y.s.picture 0 = false := rfl
        clear o1 o1w o2 o3 oblk hrow hv hcell hvz hz2 hzl hb2 HY hcy hci
        generalize y.s.picture = pic at *
        generalize y.pics.getD 2 [] = last at *
        generalize x.judged.newPic = np at *
        go_wp2_with fail
        go_loopg [9, 8] 3 (fun g i hv wr => ∃ k : Nat, g + k = 3 ∧ i = .int .i64 k ∧ hv = .bool (heavyK pic k) ∧ w2 = wr)
        case atStart => exact ⟨0, rfl, rfl, by rw [hz3], rfl⟩
        case round =>
          obtain ⟨k, hg, rfl, rfl, rfl⟩ := hrel
          have HG2 := Lib.hid hg; clear hg
          by_cases hk3 : k < 3
          · obtain ⟨nb, noff, rfl, hcl⟩ := HRD.out.cells k hk3
            obtain ⟨n, hn⟩ : ∃ n, pic[k]? = some n := ⟨_, List.getElem?_eq_getElem (by rw [hpl]; exact hk3)⟩
            rw [List.getD_eq_getElem?_getD, hn] at hcl
            simp only [Option.getD_some] at hcl
            have HS2 := Lib.hid (HST.out k n hn)
            clear hn
            by_cases hn0 : 0 < n
            · have x1 : decide (0 < n) = true := by simp; omega
              rw [x1, Bool.or_true] at HS2
              clear hn0
              go_wp2_with fail
              have hg := HG2.out
              go_roundg (3 - (k + 1))
              case measure => omega
              case rel => exact ⟨k + 1, by omega, by go_num, by rw [HS2.out], by first | rfl | trivial⟩
            · have x1 : decide (0 < n) = false := by simp; omega
              rw [x1, Bool.or_false] at HS2
              clear hn0
              go_wp2_with fail
              have hg := HG2.out
              go_roundg (3 - (k + 1))
              case measure => omega
              case rel => exact ⟨k + 1, by omega, by go_num, by rw [HS2.out], by first | rfl | trivial⟩
          · have hk33 : k = 3 := by have := HG2.out; omega
            subst hk33
            have hx1 : ((ci + 3 : Nat) : Int) - 1 = ((ci + 2 : Nat) : Int) := by omega
            have hx2 : ((ci + 2 : Nat) : Int) < ((ci + 3 : Nat) : Int) := by omega
            have hx3 : (0 : Int) ≤ ((ci + 2 : Nat) : Int) := by omega
            have hzm : ci + 3 ≤ 2000000 := by omega
            have hx4 : IntKind.i64.wrap ((ci + 2 : Nat) : Int) = ((ci + 2 : Nat) : Int) := IntWalk.i64_in _ ⟨by omega, by omega⟩
            generalize ci + 2 = c2 at *
            generalize ci + 3 = c3 at *
            generalize heavyK pic 3 = hvy at *
            go_upto_if 106 with fail
            go_cut [7] (fun p wz => ∃ pa pc d, p = .slice pa np.length pc ∧ wz = w2.drewN d ∧ RdI .i64 w2 pa np.length pc np ∧ ∀ a, pa = some a → (K1.Fp a.block ∨ (wx.heap.size ≤ a.block ∧ a.block < w2.heap.size)) ∧ K1.pv.ownBlock ≠ some a.block)
            case first =>
              by_cases hz : pic = [0, 0, 0]
              · obtain rfl : hvy = false := HPM.out.2 hz
                have HN2 := Lib.hid (show np = last by rw [HNP.out, if_pos hz])
                clear hz
                generalize hql : last.length = ql at h2c
                have HQL := Lib.hid hql
                go_wp2_with fail
                go_quiet (fail)
                go_wp2_with fail
                go_meet
                case rel => exact ⟨qa, qc, nq, by rw [HN2.out, HQL.out], rfl, by rw [HN2.out]; exact HQ.out.1, fun a ha => ⟨.inl (HQ.out.2 a ha).1, (HQ.out.2 a ha).2⟩⟩
              · obtain rfl : hvy = true := by
                  cases hvy with
                  | true => rfl
                  | false => exact absurd (HPM.out.1 rfl) hz
                have HN2 := Lib.hid (show np = pic by rw [HNP.out, if_neg hz])
                clear hz
                go_wp2_with fail
                go_meet
                case rel => exact ⟨pa0, pc0, 0, by rw [HN2.out, hpl], rfl, by rw [HN2.out, hpl]; exact HRD.out, fun a ha => ⟨.inr (HPN.out a ha), fun e => by
                  have h1 := HPN.out a ha
                  have h2 := H3'.out.ch.pl _ (HOB.out _ e)
                  omega⟩⟩
            case rest =>
              obtain ⟨pa, pc, d, rfl, rfl, hR, hab⟩ := hcut
              obtain ⟨i0, hi, hz0, hz1, hz2⟩ := info_parts infoSl
              have HAB := Lib.hid hab; have HRR := Lib.hid hR; clear hab hR
              have HW1 := Lib.hid (fun d (ob : Obj) => OwnSl.alloc (w := w2.drewN d) (show OwnSl 0 38 (.slice (some ⟨g, off, none⟩) c3 cp) vs (w2.drewN d) by have := HO1.out; rw [HVV.out] at this; exact this) ob)
              have hvl : vs.length = c3 := by rw [HO2.out]; exact HPZL.out
              have HVL := Lib.hid hvl
              clear hvl
              generalize hnp : np.length = nl at *
              go_wp2_with (at_builtin; refine wpList_append_sl _ rfl (.tmp 122) (.tmp 124) 57 rfl 0 38 i0 (.slice none 0 0) 24 Tryz.underlying57 hi hz0 hz1 hz2 rfl (.slice (some ⟨g, off, none⟩) c3 cp) vs rfl (HW1.out _ _) ⟨_, 0, none⟩ (.slice pa nl pc) rfl (World.news_of_block (heap_alloc_new _ _)) (by intro u hu; simp at hu; subst hu; rfl) (by rw [HVL.out]; unfold maxLen; omega) (by rw [HVL.out]; omega) (Nat.zero_le _) ?_)
              intro v2 w5 ho5 hg5 hb5
              obtain ⟨za, zc, hv2, -, -⟩ := ho5.shape
              generalize (vs ++ [Value.slice pa nl pc]).length = vn at hv2
              subst hv2
              have hgp : ((w2.drewN d).alloc (Obj.cells #[Value.slice pa nl pc] 38)).grownBy w5 K1.pv.ownBlock := by rw [HVV.out]; exact hg5
              have hw1 : Below wx.heap.size wx ((w2.drewN d).alloc (Obj.cells #[Value.slice pa nl pc] 38)) := (HBW.out.drewN d).alloc HBW.out.size _
              have hpics := PicsAt.appended (vs1 := vs) (u := .slice pa nl pc) (cb := cb) (m := 7) (x := .slice za vn zc) (pics := Z) (z := np) (fun b hb => H3'.out.ch.pl b hb) HOB.out HO2.out HO3.out hw1 hgp ho5
                (by rw [HVV.out]; simpa using hb5) (fun g hg => (ho5.blk hg).2)
                ⟨pa, pc, by rw [hnp], (by
                  have h0 := HRR.out
                  rw [← hnp] at h0
                  exact (h0.below ((Below.refl _ _).drewN d)).below ((Below.refl _ _).alloc (Nat.le_refl _) _)), fun a ha => ⟨(HAB.out a ha).1.imp id (fun h => ⟨h.1, by have := h.2; simp; omega⟩), (HAB.out a ha).2⟩⟩
                H3'.out.ch.d0.2.2.2.2 H3'.out.ch.row.lt
              have hkp : Keep (fun b => K1.pv.ownBlock = some b) wx w5 := (Keep.of_below hw1).grown hgp (fun k hk => .inl hk)
              have hfin := H3'.out.pics hkp (fun b hb => HOB.out b hb) hpics
              have hr5 : RowAt cb 77 (rchainVs K1 sd y2) w5 := H3'.out.ch.row.keep hkp (fun e => H3'.out.ch.d0.2.2.2.2 (HOB.out _ e))
              have m7 : w5.cell? ⟨cb, 7, none⟩ = some K1.pv := hr5.cell 7
              have f7 : w5.frozen? ⟨cb, 7, none⟩ = false := hr5.frozen 7
              obtain ⟨q1, q2, q3, q4, q5, q6⟩ := HEQ.out
              have HFIN := Lib.hid (hfin.like q1 q2 q3 q4 q5 q6)
              clear hgp hw1 hpics hkp hfin hr5 ho5 hg5 hb5 q1 q2 q3 q4 q5 q6
              go_wp2_with fail
              go_end0
              exact ⟨rfl, _, _, HFIN.out, HPE.out⟩
end
end Go.Proofs.YtajnfkmkombajacGreatDoor
namespace Go.Proofs.YtajnfkmkombajacGreatDoor
open Go.RowKit Go.Maps

/-- what the document reckons as a block's reward is what the chain rewards -/
theorem CS.reward_doc {x : CS} (h : x.Inv) (b : Int) : x.reward b = (if 1125899906842624 < x.p.supply + x.issues then (0, x) else if (x.s.addOp b x.issues).1 ≠ 0 then (0, { x with s := (x.s.addOp b x.issues).2 }) else (x.issues, { x with s := (x.s.addOp b x.issues).2, p := (x.p.growOp x.issues).2 })) := by
  have hi := CS.issues_bd h
  have hle := h.p.le
  have s0 := h.p.sum_bd
  unfold CS.reward
  split
  · rfl
  · next hm =>
    split
    · rfl
    · have hg : x.p.growOp x.issues = (0, x.p.grow x.issues) := by
        unfold PS.growOp; rw [if_pos]; simp only [Bool.and_eq_true, amtB_iff]; omega
      rw [hg]; rfl
section
variable (W : World) (F : Nat → Prop) (cb : Nat) (K : RChL) (sd : Nat) (x : CS) (Z : List (List Int)) (w : World)
set_option maxRecDepth 8000 in
set_option maxHeartbeats 2000000 in
theorem refc_Bake (b r : Int) (h : RChGo W F cb K sd x Z w) (hx : x.Inv) (hz : PicsOf x Z) (hs : sd < 18446744073709551616) (hW : x.s.W.length ≤ 8000) (hk : x.k.L.length ≤ 1000000) :
    Calls Tryz.prog 112 #[.pointer (some ⟨cb, 0, none⟩), .int .i64 b, .int .i64 r] w fun e w' => e = .returned (.tuple #[.int .i64 (x.bakeOp sd b r).1, .int .i64 (x.bakeOp sd b r).2.1]) ∧ ∃ K' Z', RChGo W F cb K' sd (x.bakeOp sd b r).2.2 Z' w' ∧ PicsOf (x.bakeOp sd b r).2.2 Z' := by
  have H0 := Lib.hid h
  have HX := Lib.hid hx
  have HZ := Lib.hid hz
  have HT := Lib.hid (refc_Turn W F cb K sd x Z w r h hx hz hs)
  clear h hx hz
  by_cases hc : x.turnC r = 0
  · obtain ⟨⟨r0, r1⟩, ⟨r2, r3⟩, r4, r5⟩ := turnC_zero hc
    rw [hc] at HT
    by_cases hb : x.turnV sd r = b
    · have E := Lib.hid (show x.bakeOp sd b r = ((x.reward b).1, 0, (x.reward b).2.stepOp) by unfold CS.bakeOp; rw [if_neg (by simp [hc]), if_neg (by simp [hb])])
      obtain ⟨i1, -, -, i4, i5⟩ := CS.reward_inv HX.out b
      obtain ⟨k1, k2, k3⟩ := CS.reward_keeps x b
      have HI := Lib.hid i1
      have HRZ := Lib.hid (show PicsOf (x.reward b).2 Z from HZ.out.same i4 k1)
      have hl1 : (x.reward b).2.level = x.level := i5
      have hc1 : (x.reward b).2.cycle = x.cycle := i4
      have hk1 : (x.reward b).2.k.L.length ≤ 1000000 := by rw [k2]; exact hk
      have hw1 : (x.reward b).2.s.W.length ≤ 8000 := by rw [CS.reward_len]; exact hW
      have HRD := Lib.hid (CS.reward_doc HX.out b)
      obtain ⟨ra0, ra1⟩ := CS.ratio_bd HX.out
      have hro : rateOk x.ratio x.bonus := ⟨ra0, ra1, HX.out.b0, HX.out.b1⟩
      obtain ⟨is0, is1⟩ := CS.issues_bd HX.out
      have HIS := Lib.hid (show rewardN x.p.supply (rateN x.ratio x.bonus) = x.issues from rfl)
      have su0 : 0 ≤ x.p.supply := by have := HX.out.p.sum_bd; have := HX.out.p.le; omega
      have su1 := HX.out.p.most
      rw [hb] at HT
      have HFC := Lib.hid (fun wx (hg : RChGo W F cb K sd x Z wx) => show wx.cell? ⟨cb, 0, none⟩ = some (.pointer (some ⟨K.pb, 0, none⟩)) ∧ wx.cell? ⟨K.pb, 1, none⟩ = some (.int .i64 x.p.supply) ∧ wx.cell? ⟨cb, 6, none⟩ = some (.int .i64 x.bonus) from ⟨hg.c0, hg.ch.purse.c1, hg.c6⟩)
      clear i1 i4 i5 k1 k2 k3 hb hc ra0 ra1
      go_enter Tryz.func112, Tryz.ntmps112
      go_wp2_with fail
      refine HT.out.mono ?_
      rintro e w1 ⟨rfl, hb1⟩
      have H1 := Lib.hid ((H0.out.below hb1).below ((Below.refl _ _).alloc (Nat.le_refl _) (.cells #[.int .i64 0, .int .i64 (-1)] 86))); clear hb1
      obtain ⟨w2, hw2⟩ : ∃ w2, w1.alloc (.cells #[.int .i64 0, .int .i64 (-1)] 86) = w2 := ⟨_, rfl⟩
      rw [hw2] at H1
      have k0 : w2.cell? ⟨w1.heap.size, 0, none⟩ = some (.int .i64 0) := by rw [← hw2]; simp [go_sem]
      have HRT := Lib.hid (fun wx hg => refc_ratio W F cb K sd x Z wx hg HX.out)
      go_wp2_with fail
      go_region_held3 (fun wx => wx.cell? ⟨cb, 0, none⟩ = some (.pointer (some ⟨K.pb, 0, none⟩)) ∧ wx.cell? ⟨K.pb, 1, none⟩ = some (.int .i64 x.p.supply) ∧ wx.cell? ⟨cb, 6, none⟩ = some (.int .i64 x.bonus)) (first | exact HFC.out _ H3.out | exact HFC.out _ H2.out | exact HFC.out _ (H1.out.drewN _) | exact HFC.out _ H1.out)
        (first
          | (go_at_call 175; refine (HRT.out _ (H1.out.drewN 1)).mono ?_; rintro y wa ⟨rfl, da⟩; have H2 := Lib.hid ((H1.out.drewN 1).dr da))
          | (go_at_call 174; refine (ref_RateOf x.ratio x.bonus _ hro).mono ?_; rintro y wc ⟨rfl, bc⟩; have H3 := Lib.hid (H2.out.below bc))
          | (go_at_call 173; refine (ref_RewardOf x.p.supply (rateN x.ratio x.bonus) _).mono ?_; rintro y wd ⟨rfl, rfl⟩))
      rw [HIS.out]
      generalize rewardC x.p.supply (rateN x.ratio x.bonus) = rc at *
      go_upto_if 53 with fail
      go_cut [10] (fun s10 wx => s10 = .int .i64 (x.reward b).1 ∧ ∃ K', RChGo W F cb K' sd (x.reward b).2 Z wx)
      case first =>
        clear HI HRZ hl1 hc1 hk1 hw1
        obtain ⟨f0, f1, f2⟩ := HFC.out _ H3.out
        have f3 := H3.out.c1
        by_cases hm : 1125899906842624 < x.p.supply + x.issues
        · have E2 := Lib.hid (show x.reward b = (0, x) by rw [HRD.out, if_pos hm])
          have hd : decide ((1125899906842624 : Int) < x.p.supply + x.issues) = true := by simp; omega
          generalize x.issues = N at *
          generalize x.p.supply = P at *
          go_wp2_with fail
          go_meet
          case rel => exact ⟨by rw [E2.out], by rw [E2.out]; exact ⟨K, H3.out⟩⟩
        · have hd : decide ((1125899906842624 : Int) < x.p.supply + x.issues) = false := by simp; omega
          have hm2 : x.p.supply + x.issues ≤ 1125899906842624 := by omega
          have HA := Lib.hid (fun wx (hg : RChGo W F cb K sd x Z wx) => refs_Add K.sb K.Fs x.s wx b x.issues hg.ch.st)
          have HGR := Lib.hid (fun wx K2 (hp : RPurseAt (RChL.pb K2) (RChL.hb K2) x.p wx) => refp_Grow K2.pb K2.hb x.p x.issues wx hp)
          by_cases ha : (x.s.addOp b x.issues).1 = 0
          · have E2 := Lib.hid (show x.reward b = (x.issues, { x with s := (x.s.addOp b x.issues).2, p := (x.p.growOp x.issues).2 }) by rw [HRD.out, if_neg hm, if_neg (by simp [ha])])
            rw [ha] at HA
            clear hm ha
            generalize x.issues = N at *
            generalize x.p.supply = P at *
            go_wp2_with fail
            refine (HA.out _ H3.out).mono ?_
            rintro e w4 ⟨rfl, k4⟩
            have H4 := Lib.hid (H3.out.stakes k4); clear k4
            have g0 := H4.out.c0
            go_wp2_with fail
            refine (HGR.out _ (K.withS _ _) H4.out.ch.purse).mono ?_
            rintro e w5 ⟨rfl, k5⟩
            have H5 := Lib.hid (H4.out.purse k5); clear k5
            go_wp2_with fail
            go_meet
            case rel => exact ⟨by rw [E2.out], by rw [E2.out]; exact ⟨_, H5.out⟩⟩
          · have E2 := Lib.hid (show x.reward b = (0, { x with s := (x.s.addOp b x.issues).2 }) by rw [HRD.out, if_neg hm, if_pos ha])
            have hpos : decide (0 < ((x.s.addOp b x.issues).1 : Int)) = true := by simp; omega
            have hpos2 : decide (0 < (x.s.addOp b x.issues).1) = true := by simp; omega
            clear hm ha HGR
            generalize (x.s.addOp b x.issues).1 = ac at *
            generalize x.issues = N at *
            generalize x.p.supply = P at *
            go_wp2_with fail
            refine (HA.out _ H3.out).mono ?_
            rintro e w4 ⟨rfl, k4⟩
            have H4 := Lib.hid (H3.out.stakes k4); clear k4
            go_wp2_with fail
            go_meet
            case rel => exact ⟨by rw [E2.out], by rw [E2.out]; exact ⟨_, H4.out⟩⟩
      case rest =>
        obtain ⟨rfl, K2, hg2⟩ := hcut
        have H2 := Lib.hid hg2; clear hg2 HRD HFC HIS
        clear hro is0 is1 su0 su1
        generalize (x.reward b).2 = y at *
        generalize (x.reward b).1 = rw_ at *
        generalize hL : x.level = L at *
        have c5 := H2.out.c5; have f5 := H2.out.ch.row.frozen 5
        rw [hl1] at c5
        have H3 := Lib.hid (H2.out.put (i := 5) (v := .int .i64 (L + 1)) (y := { y with level := L + 1 }) rfl rfl rfl rfl)
        have em : (L + 1).tmod 4 = (L + 1) % 4 := Int.tmod_eq_emod_of_nonneg (by omega)
        by_cases hm : (L + 1) % 4 = 0
        · have hm' : (L + 1).tmod 4 = 0 := by rw [em]; exact hm
          have ES := Lib.hid (show y.stepOp = ({ y with level := L + 1 } : CS).endOp by unfold CS.stepOp; rw [hl1, if_pos hm])
          have hinv : ({ y with level := L + 1 } : CS).Inv := ⟨HI.out.p, HI.out.s, HI.out.reg, HI.out.bal, HI.out.known, HI.out.done, HI.out.b0, HI.out.b1, HI.out.three, HI.out.pic, HI.out.cy, by show 0 ≤ L + 1; omega⟩
          have HEN := Lib.hid (refc_end W F cb K2 sd { y with level := L + 1 } Z _ H3.out hinv (HRZ.out.same rfl rfl) hw1 hk1 (by show y.cycle ≤ _; rw [hc1]; omega))
          have hm2 : ((L + 1) % 4 == 0) = true := by simp [hm]
          clear em hm hinv
          go_wp2_with fail
          refine HEN.out.mono ?_
          rintro e w3 ⟨rfl, K3, Z3, hg3, hz3⟩
          have H4 := Lib.hid (And.intro hg3 hz3); clear hg3 hz3
          go_wp2_with fail
          go_ret2
          exact ⟨by rw [E.out]; rfl, by rw [E.out, ES.out]; exact ⟨K3, Z3, H4.out.1, H4.out.2⟩⟩
        · have hm' : ((L + 1).tmod 4 == 0) = false := by rw [em]; simp [hm]
          have ES := Lib.hid (show y.stepOp = { y with level := L + 1 } by unfold CS.stepOp; rw [hl1, if_neg hm])
          have hm2 : ((L + 1) % 4 == 0) = false := by simp [hm]
          clear em hm
          go_wp2_with fail
          go_ret2
          exact ⟨by rw [E.out]; rfl, by rw [E.out, ES.out]; exact ⟨K2, Z, H3.out, HRZ.out.same rfl rfl⟩⟩
    · have E := Lib.hid (show x.bakeOp sd b r = (0, 9, x) by unfold CS.bakeOp; rw [if_neg (by simp [hc]), if_pos hb])
      have hne : (x.turnV sd r != b) = true := by simp [hb]
      clear hc hb
      generalize x.turnV sd r = tv at *
      go_enter Tryz.func112, Tryz.ntmps112
      go_wp2_with fail
      refine HT.out.mono ?_
      rintro e w1 ⟨rfl, hb1⟩
      have H1 := Lib.hid (H0.out.below hb1); clear hb1
      go_wp2_with fail
      go_ret2
      exact ⟨by rw [E.out]; rfl, by rw [E.out]; exact ⟨K, Z, H1.out.below ((Below.refl _ _).alloc (Nat.le_refl _) _), HZ.out⟩⟩
  · have E := Lib.hid (show x.bakeOp sd b r = (0, x.turnC r, x) by unfold CS.bakeOp; rw [if_pos hc])
    have hpos : decide (0 < (x.turnC r : Int)) = true := by simp; omega
    have hpos2 : decide (0 < x.turnC r) = true := by simp; omega
    clear hc
    generalize x.turnC r = tc at *
    go_enter Tryz.func112, Tryz.ntmps112
    go_wp2_with fail
    refine HT.out.mono ?_
    rintro e w1 ⟨rfl, hb1⟩
    have H1 := Lib.hid (H0.out.below hb1); clear hb1
    go_wp2_with fail
    go_quiet (fail)
    go_wp2_with fail
    go_ret2
    exact ⟨by rw [E.out]; rfl, by rw [E.out]; exact ⟨K, Z, (H1.out.below ((Below.refl _ _).alloc (Nat.le_refl _) _)).drewN _, HZ.out⟩⟩
end
end Go.Proofs.YtajnfkmkombajacGreatDoor
namespace Go.Proofs.YtajnfkmkombajacGreatDoor
open Go.RowKit Go.Maps

section
variable (W : World) (F : Nat → Prop) (cb : Nat) (K : RChL) (sd : Nat) (x : CS) (Z : List (List Int)) (w : World)
set_option maxRecDepth 8000 in
set_option maxHeartbeats 1000000 in
theorem refc_BakeTurn (r : Int) (h : RChGo W F cb K sd x Z w) (hx : x.Inv) (hz : PicsOf x Z) (hs : sd < 18446744073709551616) (hW : x.s.W.length ≤ 8000) (hk : x.k.L.length ≤ 1000000) :
    Calls Tryz.prog 180 #[.pointer (some ⟨cb, 0, none⟩), .int .i64 r] w fun e w' => e = .returned (.tuple #[.int .i64 (x.btV sd r), .int .i64 (x.btN sd r), .int .i64 (x.turnC r)]) ∧ ∃ K' Z', RChGo W F cb K' sd (x.btS sd r) Z' w' ∧ PicsOf (x.btS sd r) Z' := by
  have H0 := Lib.hid h
  have HZ := Lib.hid hz
  have HT := Lib.hid (refc_Turn W F cb K sd x Z w r h hx hz hs)
  have HB := Lib.hid (fun wx (hg : RChGo W F cb K sd x Z wx) => refc_Bake W F cb K sd x Z wx (x.turnV sd r) r hg hx hz hs hW hk)
  clear h hx hz
  by_cases hc : x.turnC r = 0
  · have E1 := Lib.hid (show x.btV sd r = x.turnV sd r from if_pos hc)
    have E2 := Lib.hid (show x.btN sd r = (x.reward (x.turnV sd r)).1 from if_pos hc)
    have E3 := Lib.hid (show x.btS sd r = (x.reward (x.turnV sd r)).2.stepOp from if_pos hc)
    have E4 := Lib.hid (show x.bakeOp sd (x.turnV sd r) r = ((x.reward (x.turnV sd r)).1, 0, (x.reward (x.turnV sd r)).2.stepOp) by unfold CS.bakeOp; rw [if_neg (by simp [hc]), if_neg (by simp)])
    rw [E4.out] at HB
    rw [hc] at HT
    rw [E1.out, E2.out, E3.out, hc]
    clear hc E4 E1 E2 E3
    generalize x.turnV sd r = tv at *
    go_enter Tryz.func180, Tryz.ntmps180
    go_wp2_with fail
    refine HT.out.mono ?_
    rintro e w1 ⟨rfl, b1⟩
    have H1 := Lib.hid (H0.out.below b1); clear b1
    have ba : ∀ ob, Below w1.heap.size w1 (w1.alloc ob) := fun ob => (Below.refl _ _).alloc (Nat.le_refl _) _
    have HBA := Lib.hid ba; clear ba
    go_wp2_with fail
    refine (HB.out _ (H1.out.below (HBA.out _))).mono ?_
    rintro e w2 ⟨rfl, K2, Z2, g2, z2⟩
    have H2 := Lib.hid (And.intro g2 z2); clear g2 z2
    go_wp2_with fail
    go_ret3
    exact ⟨rfl, K2, Z2, H2.out.1, H2.out.2⟩
  · have E1 := Lib.hid (show x.btV sd r = 0 from if_neg hc)
    have E2 := Lib.hid (show x.btN sd r = 0 from if_neg hc)
    have E3 := Lib.hid (show x.btS sd r = x from if_neg hc)
    have hpos : decide (0 < (x.turnC r : Int)) = true := by simp; omega
    have hpos2 : decide (0 < x.turnC r) = true := by simp; omega
    rw [E1.out, E2.out, E3.out]
    clear hc E1 E2 E3 HB
    generalize x.turnC r = tc at *
    go_enter Tryz.func180, Tryz.ntmps180
    go_wp2_with fail
    refine HT.out.mono ?_
    rintro e w1 ⟨rfl, b1⟩
    have H1 := Lib.hid (H0.out.below b1); clear b1
    go_wp2_with fail
    go_quiet (fail)
    go_wp2_with fail
    go_ret3
    exact ⟨rfl, K, Z, (H1.out.below ((Below.refl _ _).alloc (Nat.le_refl _) _)).drewN _, HZ.out⟩
end
end Go.Proofs.YtajnfkmkombajacGreatDoor
