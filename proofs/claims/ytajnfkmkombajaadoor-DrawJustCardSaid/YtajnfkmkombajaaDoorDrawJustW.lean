/- The walk of DrawJust. -/
import Derived.Test.YtajnfkmkombajaaDoorDrawOps
import Derived.Test.YtajnfkmkombajaaDoorOwnInts
import Derived.Deep.RegionWith
set_option linter.unusedVariables false
set_option linter.unusedSimpArgs false
namespace Go.Proofs.YtajnfkmkombajaaDoor
open Go.RowKit

theorem drawn_facts : weightsF [1, 3] = (0, -1) ∧ ([1, 3] : List Int).sum = 4 ∧ pickOf (vose [1, 3]) 0 2 = 1 := ⟨by rfl, by rfl, by rfl⟩

set_option maxRecDepth 8000 in
theorem law_drawn (A : Nat → Addr) (S : List Nat) (w : World) (hE : Errs A S w) (h2 : 2 ∈ S) (h3 : 3 ∈ S) (h4 : 4 ∈ S) :
    Calls Tryd.prog 24 #[] w fun e w' => e = .returned (.bool true) ∧ Below w.heap.size w w' := by
  obtain ⟨f1, f2, f3⟩ := drawn_facts
  have F1 := Lib.hid f1; have F2 := Lib.hid f2; have F3 := Lib.hid f3
  have HE := Lib.hid hE; clear hE f1 f2 f3
  have hW := fun (wx : World) (hx : RdI .i64 wx (some ⟨w.heap.size, 0, none⟩) 2 2 [1, 3]) (ex : Errs A S wx) => draw_New A S (some ⟨w.heap.size, 0, none⟩) 2 [1, 3] wx hx ex h2 h3 h4
  have HW := Lib.hid hW; clear hW
  go_enter Tryd.func24, Tryd.ntmps24
  go_wp2_with fail
  have R := RdI.of_rowAt (k := .i64) (zs := [1, 3]) (RowAt.new w 3 [.int .i64 1, .int .i64 3]) (by unfold maxLen; decide)
  have b0 := (Below.refl w.heap.size w).alloc (Nat.le_refl _) (.cells #[.int .i64 1, .int .i64 3] 3)
  refine (HW.out _ R (HE.out.below b0)).mono ?_
  rintro e w1 ⟨p, v, rfl, hv, hb1, hp⟩
  rw [F1.out] at hv hp
  have hv0 := hv.yes rfl rfl
  subst hv0
  obtain ⟨b, cb, rfl, _, _, D⟩ := (hp.resolve_left (by simp)).2
  have b1 := btrans b0 hb1
  have HD := Lib.hid D
  clear R b0 hv hb1 hp D HW
  go_wp2_with fail
  refine (draw_Height b cb [1, 3] _ HD.out).mono ?_
  rintro e w' ⟨rfl, rfl⟩
  rw [F2.out]
  go_wp2_with fail
  refine (draw_Columns b cb [1, 3] _ HD.out).mono ?_
  rintro e w' ⟨rfl, rfl⟩
  rw [show (([1, 3] : List Int).length : Int) = 2 from rfl]
  go_wp2_with fail
  refine (draw_Pick_in b cb [1, 3] 0 2 _ HD.out (by decide) (by decide) (by decide) (by rw [F2.out]; decide)).mono ?_
  rintro e w' ⟨rfl, n, rfl⟩
  rw [F3.out]
  go_wp2_with fail
  go_ret
  exact ⟨rfl, b1.drewN _⟩

/-- what DrawJust keeps, round by round -/
structure JustLoop (W : World) (b cb rb : Nat) (zs : List Int) (c : List Int) (w : World) : Prop where
  below : Below W.heap.size W w
  d : DrawAt b cb zs w
  r : RowAt rb 3 (c.map (Value.int .i64)) w
  nr : W.heap.size ≤ rb
  br : b < rb
  cr : cb < rb
theorem JustLoop.drewN {W w : World} {b cb rb : Nat} {zs c : List Int} (h : JustLoop W b cb rb zs c w) (n : Nat) : JustLoop W b cb rb zs c (w.drewN n) := ⟨h.below.drewN n, h.d.drewN n, h.r, h.nr, h.br, h.cr⟩
theorem JustLoop.put {W w : World} {b cb rb : Nat} {zs c : List Int} (h : JustLoop W b cb rb zs c w) (k : Nat) (x : Int) : JustLoop W b cb rb zs (c.set k x) (w.setCell ⟨rb, k, none⟩ (.int .i64 x)) := by
  have := h.br; have := h.cr
  refine ⟨h.below.setCell h.nr _, ⟨h.d.d.set_other (by simp only; omega) _, h.d.c.set_other (by simp only; omega) _⟩, ?_, h.nr, h.br, h.cr⟩
  rw [List.map_set]; exact h.r.set _ _
theorem JustLoop.cell {W w : World} {b cb rb : Nat} {zs c : List Int} (h : JustLoop W b cb rb zs c w) {k : Nat} (hk : k < c.length) : w.cell? ⟨rb, k, none⟩ = some (.int .i64 (c.getD k 0)) := by
  rw [h.r.cell, List.getElem?_map, List.getElem?_eq_getElem hk]; simp [hk]

set_option maxRecDepth 8000 in
set_option maxHeartbeats 1000000 in
theorem just_walk (A : Nat → Addr) (S : List Nat) (ao : Option Addr) (cap : Nat) (zs : List Int) (w : World) (R : RdI .i64 w ao zs.length cap zs) (hE : Errs A S w) (h2 : 2 ∈ S) (h3 : 3 ∈ S) (h4 : 4 ∈ S) (hl : zs.length ≤ 64) :
    Calls Tryd.prog 4 #[.slice ao zs.length cap] w fun e w' => e = .returned (.bool true) ∧ Below w.heap.size w w' := by
  have HE := Lib.hid hE; clear hE
  have HR := Lib.hid R; clear R
  have d1 : decide ((64 : Int) < (zs.length : Int)) = false := by simp; omega
  have hmk := make_ints zs.length (by omega)
  have HN := fun aox capx wx hx ex => draw_New A S aox capx zs wx hx ex h2 h3 h4
  have HNw := Lib.hid HN; clear HN
  have hown := fun wx hx => law_OwnInts ao zs.length cap zs wx hx (by omega)
  have HOwn := Lib.hid hown; clear hown
  have hcol := fun b cb (k : Nat) wx hd => draw_Column_in b cb zs k wx hd
  have HCol := Lib.hid hcol; clear hcol
  have hpick := fun b cb (k : Nat) a wx hd => draw_Pick_in b cb zs k a wx hd
  have HPick := Lib.hid hpick; clear hpick
  have hhi := fun b cb wx hd => draw_Height b cb zs wx hd
  have HHi := Lib.hid hhi; clear hhi
  generalize hn : zs.length = n at *
  have Hn := Lib.hid hn; clear hn
  generalize hH : zs.sum = H at *
  have HH := Lib.hid hH; clear hH
  go_enter Tryd.func4, Tryd.ntmps4
  go_wp2_with fail
  refine (law_drawn A S _ HE.out h2 h3 h4).mono ?_
  rintro e w0 ⟨rfl, hb0⟩
  go_wp2_with fail
  refine (HOwn.out _ (HR.out.below hb0)).mono ?_
  rintro e w1 ⟨ao1, cap1, rfl, ho1, hb1⟩
  have hb01 := btrans hb0 hb1
  have HO1 := Lib.hid ho1; clear ho1 hb0 hb1
  go_wp2_with fail
  refine (HNw.out ao1 cap1 _ (RdI.of_own HO1.out) (HE.out.below hb01)).mono ?_
  rintro e w2 ⟨p, v, rfl, hv, hb2, hp⟩
  have hb02 := btrans hb01 hb2
  rcases hp with ⟨hf, rfl⟩ | ⟨hf, b, cb, rfl, nb, nc, D⟩
  · obtain ⟨t, x, rfl⟩ := hv.no hf
    clear hv hf hmk
    go_wp2
    go_ret
    exact ⟨rfl, hb02⟩
  · obtain ⟨hwf, hl1, _, hz, hs1, hs2⟩ := weights_ok hf
    rw [hwf] at hv
    have hv0 := hv.yes rfl rfl
    subst hv0
    have J := vose_just zs (fun x hx => (hz x hx).1)
    rw [HH.out] at hs1 hs2
    rw [Hn.out] at hl1
    have HJ := Lib.hid J; have HZ := Lib.hid (fun x hx => (hz x hx).1); have HZU := Lib.hid (fun x hx => (hz x hx).2)
    have hl64 : H * (n : Int) ≤ 68719476736 * 64 := Int.mul_le_mul hs2 (by omega) (by omega) (by omega)
    have JL0 : JustLoop w b cb w2.heap.size zs (accC H n (vose zs) 0) (w2.alloc (.cells (zeroVs n).toArray 3)) :=
      ⟨hb02.alloc hb02.size _, ⟨D.d.alloc _, D.c.alloc _⟩, RowAt.new w2 3 (zeroVs n), hb02.size, D.d.lt, D.c.lt⟩
    have HJL0 := Lib.hid JL0
    clear J JL0 hv hf hwf hz D hb2 hb02 hb01
    go_wp2_with fail
    go_loopg [7] n (fun g i wr => ∃ k : Nat, g + k = n ∧ i = .int .i64 k ∧ JustLoop w b cb w2.heap.size zs (accC H n (vose zs) k) wr)
    case atStart => exact ⟨0, rfl, rfl, HJL0.out⟩
    case round =>
      clear HJL0 hmk
      obtain ⟨k, hg, rfl, L⟩ := hrel
      have hG := Lib.hid hg; clear hg
      have HL := Lib.hid L; clear L
      by_cases hlt : k < n
      · have hbd := HJ.out.bd k (by rw [Hn.out]; exact hlt)
        rw [HH.out, Hn.out] at hbd
        have hacc := accC_bd HJ.out k (by rw [Hn.out]; omega)
        rw [HH.out, Hn.out] at hacc
        have hlen := accC_length H n (vose zs) k
        have hC := Lib.hid (HCol.out b cb k)
        have hP := Lib.hid (HPick.out b cb k)
        have hstep : accC H n (vose zs) (k + 1) = ((accC H n (vose zs) k).set k ((accC H n (vose zs) k).getD k 0 + ((vose zs).getD k (0, 0)).1)).set ((vose zs).getD k (0, 0)).2.toNat (((accC H n (vose zs) k).set k ((accC H n (vose zs) k).getD k 0 + ((vose zs).getD k (0, 0)).1)).getD ((vose zs).getD k (0, 0)).2.toNat 0 + H - ((vose zs).getD k (0, 0)).1) := rfl
        have hpk : ∀ a, pickOf (vose zs) k a = if a < ((vose zs).getD k (0, 0)).1 then (k : Int) else ((vose zs).getD k (0, 0)).2 := fun a => rfl
        have hkH : H * (k : Int) ≤ H * (n : Int) := Int.mul_le_mul_of_nonneg_left (by omega) (by omega)
        generalize hx : ((vose zs).getD k (0, 0)).1 = x at *
        generalize hy : ((vose zs).getD k (0, 0)).2 = y at *
        obtain ⟨y0, y1⟩ := hbd.2.2
        obtain ⟨o, rfl⟩ := Int.eq_ofNat_of_zero_le y0
        rw [Int.toNat_natCast] at hstep
        generalize accC H n (vose zs) k = acc at *
        have hak := hacc k hlt
        have hlk : k < acc.length := by omega
        have hol : o < acc.length := by omega
        have c1 := HL.out.cell hlk
        have f1 := HL.out.r.frozen k
        have HST := Lib.hid hstep; have HPK := Lib.hid hpk; have HA := Lib.hid hacc
        clear hstep hpk hacc
        generalize hak2 : acc.getD k 0 = ak at *
        have HAK := Lib.hid hak2; clear hak2
        obtain ⟨x0, x1, _, _⟩ := hbd
        go_wp2_with fail
        refine (hC.out _ HL.out.d HZ.out hlt).mono ?_
        rintro e w' ⟨rfl, n1, rfl⟩
        go_wp2_with fail
        refine (HHi.out b cb _ (HL.out.drewN n1).d).mono ?_
        rintro e w' ⟨rfl, rfl⟩
        go_upto_region 14 with fail
        go_cut [] (fun wx => JustLoop w b cb w2.heap.size zs (acc.set k (ak + x)) wx)
        case first =>
          have F2 := Lib.hid ((HL.out.drewN n1).put k (ak + x))
          clear HL
          go_wp2_with fail
          go_meet
          case rel => exact F2.out
        case rest =>
          clear HL c1 f1
          have HL := Lib.hid hcut; clear hcut
          go_upto_region 15 with fail
          have hol2 : o < (acc.set k (ak + x)).length := by rw [List.length_set]; exact hol
          have c2 := HL.out.cell hol2
          have f2 := HL.out.r.frozen o
          have hb2 : 0 ≤ (acc.set k (ak + x)).getD o 0 ∧ (acc.set k (ak + x)).getD o 0 ≤ 68719476736 * 64 + 68719476736 := by
            by_cases hko : k = o
            · rw [← hko, getD_set_same _ _ _ _ hlk]; omega
            · rw [getD_set_other _ _ _ _ _ hko]; have := HA.out o (by omega); omega
          generalize ha2 : (acc.set k (ak + x)).getD o 0 = a2 at *
          have HA2 := Lib.hid ha2; clear ha2
          go_cut [] (fun wx => JustLoop w b cb w2.heap.size zs ((acc.set k (ak + x)).set o (a2 + H - x)) wx)
          case first =>
            have F3 := Lib.hid (HL.out.put o (a2 + H - x))
            have w1e : IntKind.i64.wrap (a2 + H) = a2 + H := IntWalk.i64_in _ (by omega)
            have w2e : IntKind.i64.wrap (a2 + H - x) = a2 + H - x := IntWalk.i64_in _ (by omega)
            go_region_with (go_at_call 28; refine (HHi.out b cb _ ((HL.out.drewN 1).d)).mono ?_; rintro e w' ⟨rfl, rfl⟩)
            all_goals go_wp2_with fail
            all_goals go_meet
            all_goals (case rel => exact F3.out.drewN 1)
          case rest =>
            clear HL c2 f2
            have HL := Lib.hid hcut; clear hcut
            have HST2 := Lib.hid (show accC H n (vose zs) (k + 1) = (acc.set k (ak + x)).set o (a2 + H - x) by rw [HST.out])
            have hP1 := hP.out (x - 1)
            have hP2 := hP.out x
            rw [HPK.out] at hP1 hP2
            rw [if_pos (by omega)] at hP1
            rw [if_neg (by omega)] at hP2
            have HP1 := Lib.hid hP1; have HP2 := Lib.hid hP2
            clear hP1 hP2
            have nek : ((k : Int) != (k : Int)) = false := bne_self_eq_false _
            have neo : ((o : Int) != (o : Int)) = false := bne_self_eq_false _
            have hfin : ∀ wx, JustLoop w b cb w2.heap.size zs ((acc.set k (ak + x)).set o (a2 + H - x)) wx → JustLoop w b cb w2.heap.size zs (accC H n (vose zs) (k + 1)) wx := fun wx hx => by rw [HST2.out]; exact hx
            have HF := Lib.hid hfin; clear hfin
            by_cases hx0 : 0 < x
            · by_cases hxH : x < H
              · go_wp2_with fail
                refine (HP1.out _ HL.out.d HZ.out hlt (by omega) (by omega)).mono ?_
                rintro e w' ⟨rfl, n2, rfl⟩
                go_wp2_with fail
                refine (HHi.out b cb _ (HL.out.drewN n2).d).mono ?_
                rintro e w' ⟨rfl, rfl⟩
                go_wp2_with fail
                refine (HP2.out _ (HL.out.drewN n2).d HZ.out hlt (by omega) (by omega)).mono ?_
                rintro e w' ⟨rfl, n3, rfl⟩
                go_wp2_with fail
                have hg := hG.out
                go_roundg (n - (k + 1))
                case measure => omega
                case rel => exact ⟨k + 1, by omega, by go_num, HF.out _ (HL.out.drewN _)⟩
              · go_wp2_with fail
                refine (HP1.out _ HL.out.d HZ.out hlt (by omega) (by omega)).mono ?_
                rintro e w' ⟨rfl, n2, rfl⟩
                go_wp2_with fail
                refine (HHi.out b cb _ (HL.out.drewN n2).d).mono ?_
                rintro e w' ⟨rfl, rfl⟩
                go_wp2_with fail
                have hg := hG.out
                go_roundg (n - (k + 1))
                case measure => omega
                case rel => exact ⟨k + 1, by omega, by go_num, HF.out _ (HL.out.drewN _)⟩
            · by_cases hxH : x < H
              · go_wp2_with fail
                refine (HHi.out b cb _ HL.out.d).mono ?_
                rintro e w' ⟨rfl, rfl⟩
                go_wp2_with fail
                refine (HP2.out _ HL.out.d HZ.out hlt (by omega) (by omega)).mono ?_
                rintro e w' ⟨rfl, n3, rfl⟩
                go_wp2_with fail
                have hg := hG.out
                go_roundg (n - (k + 1))
                case measure => omega
                case rel => exact ⟨k + 1, by omega, by go_num, HF.out _ (HL.out.drewN _)⟩
              · exfalso; omega
      · have hg := hG.out
        obtain rfl : k = n := by omega
        clear hg hG
        have hall := fun j hj => accC_all HJ.out j hj
        rw [HH.out, Hn.out] at hall
        have HAll := Lib.hid hall; clear hall
        have hlen := accC_length H k (vose zs) k
        have Hlen := Lib.hid hlen; clear hlen
        generalize accC H k (vose zs) k = acc at *
        go_wp2_with fail
        go_loopw [15] (fun i wr => ∃ j : Nat, j ≤ k ∧ i = .int .i64 j ∧ JustLoop w b cb w2.heap.size zs acc wr) (fun i _ => k - (intOf i).toNat)
        case atStart => exact ⟨0, Nat.zero_le _, rfl, HL.out⟩
        case round =>
          clear HL
          obtain ⟨j, hj, rfl, L⟩ := hrel
          have HL := Lib.hid L; clear L
          by_cases hlt2 : j < k
          · obtain ⟨b', off', ha', hcz⟩ := (HR.out.below HL.out.below).cells j hlt2
            have c1 := HL.out.cell (k := j) (by rw [Hlen.out]; exact hlt2)
            have hb1 := HAll.out j hlt2
            have hzj : zs.getD j 0 ∈ zs := by rw [List.getD_eq_getElem?_getD, List.getElem?_eq_getElem (by rw [Hn.out]; exact hlt2)]; exact List.getElem_mem _
            have hz0 := HZ.out _ hzj
            have hz1 := HZU.out _ hzj
            rw [hb1] at c1
            clear hb1 hzj
            generalize zs.getD j 0 = z at *
            have hm1 : z * (k : Int) ≤ 1073741824 * 64 := Int.mul_le_mul hz1 (by omega) (by omega) (by omega)
            have hm0 : 0 ≤ z * (k : Int) := Int.mul_nonneg hz0 (by omega)
            have wm : IntKind.i64.wrap (z * (k : Int)) = z * (k : Int) := IntWalk.i64_in _ (by omega)
            have ne : (z * (k : Int) != z * (k : Int)) = false := bne_self_eq_false _
            go_wp2_with fail
            go_quiet (fail)
            go_wp2_with fail
            go_roundw
            case rel => exact ⟨j + 1, by omega, by go_num, HL.out.drewN _⟩
            case measure => simp [intOf]; omega
          · go_wp2_with fail
            go_ret
            exact ⟨rfl, HL.out.below⟩

theorem just_all (A : Nat → Addr) (S : List Nat) (ao : Option Addr) (len cap : Nat) (zs : List Int) (w : World) (R : RdI .i64 w ao len cap zs) (hE : Errs A S w) (h2 : 2 ∈ S) (h3 : 3 ∈ S) (h4 : 4 ∈ S) :
    Calls Tryd.prog 4 #[.slice ao len cap] w fun e w' => e = .returned (.bool true) ∧ Below w.heap.size w w' := by
  by_cases hl : len ≤ 64
  · have := R.size
    subst this
    exact just_walk A S ao cap zs w R hE h2 h3 h4 hl
  · have HE := Lib.hid hE; clear hE R
    have d1 : decide ((64 : Int) < (len : Int)) = true := by simp; omega
    go_enter Tryd.func4, Tryd.ntmps4
    go_wp2_with fail
    refine (law_drawn A S _ HE.out h2 h3 h4).mono ?_
    rintro e w0 ⟨rfl, hb0⟩
    go_wp2
    go_ret
    exact ⟨rfl, hb0⟩
end Go.Proofs.YtajnfkmkombajaaDoor
