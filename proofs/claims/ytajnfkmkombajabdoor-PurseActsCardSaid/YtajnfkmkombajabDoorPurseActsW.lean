/- The walk of PurseActs. -/
import Derived.Test.YtajnfkmkombajabDoorPursed
import Derived.Test.YtajnfkmkombajabDoorRefPurse3
import Derived.Test.YtajnfkmkombajabDoorOpenA
import Derived.Test.YtajnfkmkombajabDoorCoded1
import Derived.Deep.RegionWith
import Derived.Deep.RegionHeld3
import Derived.Deep.DeepCutAuto
import Derived.Deep.CutBlock
import Derived.Deep.LoopGhost
import Derived.Deep.QuietTactic
import Derived.BigQuiet
set_option linter.unusedVariables false
set_option linter.unusedSimpArgs false
namespace Go.Proofs.YtajnfkmkombajabDoor
open Go.RowKit

theorem growOp_le {p : PS} {n : Int} : (p.growOp n).1 ≤ 10 := by unfold PS.growOp; split <;> simp
theorem mintOp_le {p : PS} {o n : Int} : (p.mintOp o n).1 ≤ 10 := by
  unfold PS.mintOp; split
  · simp
  · split <;> simp
theorem burnOp_le {p : PS} {n : Int} : (p.burnOp n).1 ≤ 10 := by
  unfold PS.burnOp; split
  · simp
  · split <;> simp
theorem outOp_le {p : PS} {o n : Int} : (p.outOp o n).1 ≤ 10 := by
  unfold PS.outOp; split
  · simp
  · split <;> simp
theorem inOp_le {p : PS} {o n : Int} : (p.inOp o n).1 ≤ 10 := by
  unfold PS.inOp; split
  · simp
  · split <;> simp
theorem moveOp_le {p : PS} {x y n : Int} : (p.moveOp x y n).1 ≤ 10 := by
  unfold PS.moveOp; split
  · simp
  · split
    · exact outOp_le
    · exact inOp_le

/-- both purses hold p -/
structure Acts (W : World) (b rb rh : Nat) (p : PS) (w : World) : Prop where
  purse : PurseAt b p w
  ref : RPurseAt rb rh p w
  below : Below W.heap.size W w
  nb : W.heap.size ≤ b
  nr : W.heap.size ≤ rb
  nh : W.heap.size ≤ rh
  ner : b ≠ rb
  neh : b ≠ rh
/-- within an act: its own box g stands; the law's purse holds p, the document's q -/
structure ActW (W : World) (b rb rh g : Nat) (o n : Int) (p q : PS) (w : World) : Prop where
  purse : PurseAt b p w
  ref : RPurseAt rb rh q w
  below : Below W.heap.size W w
  nb : W.heap.size ≤ b
  nr : W.heap.size ≤ rb
  nh : W.heap.size ≤ rh
  ner : b ≠ rb
  neh : b ≠ rh
  glt : g < w.heap.size
  gb : g ≠ b
  gr : g ≠ rb
  gh : g ≠ rh
  c1 : w.cell? ⟨g, 1, none⟩ = some (.int .i64 o)
  c2 : w.cell? ⟨g, 2, none⟩ = some (.int .i64 n)
theorem PurseAt.keep' {F : Nat → Prop} {b : Nat} {p : PS} {w w' : World} (h : PurseAt b p w) (k : Keep F w w') (hF : ¬ F b) : PurseAt b p w' := ⟨h.ok, h.row.keep k hF⟩
theorem ActW.drewN {W : World} {b rb rh g : Nat} {o n : Int} {p q : PS} {w : World} (h : ActW W b rb rh g o n p q w) (k : Nat) : ActW W b rb rh g o n p q (w.drewN k) :=
  ⟨⟨h.purse.ok, h.purse.row.drewN k⟩, h.ref.drewN k, h.below.drewN k, h.nb, h.nr, h.nh, h.ner, h.neh, h.glt, h.gb, h.gr, h.gh, h.c1, h.c2⟩
theorem ActW.law {W : World} {b rb rh g : Nat} {o n : Int} {p q p' : PS} {w w' : World} (h : ActW W b rb rh g o n p q w) (k : PurseP b p' w w') : ActW W b rb rh g o n p' q w' :=
  ⟨k.2, h.ref.keep k.1 (fun e => h.ner e.symm) (fun e => h.neh e.symm), Keep.after h.below k.1 (fun i hi => by have := h.nb; omega), h.nb, h.nr, h.nh, h.ner, h.neh, Nat.lt_of_lt_of_le h.glt k.1.size, h.gb, h.gr, h.gh,
    by rw [k.1.cell (p := ⟨g, 1, none⟩) h.glt h.gb]; exact h.c1, by rw [k.1.cell (p := ⟨g, 2, none⟩) h.glt h.gb]; exact h.c2⟩
theorem ActW.doc {W : World} {b rb rh g : Nat} {o n : Int} {p q q' : PS} {w w' : World} (h : ActW W b rb rh g o n p q w) (k : RPurseP rb rh q' w w') : ActW W b rb rh g o n p q' w' :=
  ⟨h.purse.keep' k.1 (fun e => e.elim h.ner h.neh), k.2, Keep.after h.below k.1 (fun i hi => by have := h.nr; have := h.nh; rcases hi with e | e <;> omega), h.nb, h.nr, h.nh, h.ner, h.neh, Nat.lt_of_lt_of_le h.glt k.1.size, h.gb, h.gr, h.gh,
    by rw [k.1.cell (p := ⟨g, 1, none⟩) h.glt (fun e => e.elim h.gr h.gh)]; exact h.c1, by rw [k.1.cell (p := ⟨g, 2, none⟩) h.glt (fun e => e.elim h.gr h.gh)]; exact h.c2⟩
theorem ActW.next {W : World} {b rb rh g : Nat} {o n : Int} {p q : PS} {w w' : World} (h : ActW W b rb rh g o n p q w) (k : Below w.heap.size w w') : ActW W b rb rh g o n p q w' :=
  have K : Keep (fun _ => False) w w' := Keep.of_below k
  ⟨h.purse.keep' K id, h.ref.keep K id id, btrans h.below k, h.nb, h.nr, h.nh, h.ner, h.neh, Nat.lt_of_lt_of_le h.glt k.size, h.gb, h.gr, h.gh,
    by rw [K.cell (p := ⟨g, 1, none⟩) h.glt id]; exact h.c1, by rw [K.cell (p := ⟨g, 2, none⟩) h.glt id]; exact h.c2⟩
theorem ActW.acts {W : World} {b rb rh g : Nat} {o n : Int} {p : PS} {w : World} (h : ActW W b rb rh g o n p p w) : Acts W b rb rh p w := ⟨h.purse, h.ref, h.below, h.nb, h.nr, h.nh, h.ner, h.neh⟩
theorem Acts.drewN {W : World} {b rb rh : Nat} {p : PS} {w : World} (h : Acts W b rb rh p w) (k : Nat) : Acts W b rb rh p (w.drewN k) :=
  ⟨⟨h.purse.ok, h.purse.row.drewN k⟩, h.ref.drewN k, h.below.drewN k, h.nb, h.nr, h.nh, h.ner, h.neh⟩
theorem Acts.begin {W : World} {b rb rh : Nat} {p : PS} {w : World} (h : Acts W b rb rh p w) (s : Value) (o n : Int) (t : TypeId) :
    ActW W b rb rh w.heap.size o n p p (w.alloc (.cells #[s, .int .i64 o, .int .i64 n] t)) := by
  have K : Keep (fun _ => False) w (w.alloc (.cells #[s, .int .i64 o, .int .i64 n] t)) := (Keep.refl _ _).alloc _
  have hl1 := RowAt.lt h.purse.row; have hl2 := RowAt.lt h.ref.row; have hl3 := RowAt.lt h.ref.has
  have hn := heap_alloc_new w (.cells #[s, .int .i64 o, .int .i64 n] t)
  exact ⟨h.purse.keep' K id, h.ref.keep K id id, h.below.alloc h.below.size _, h.nb, h.nr, h.nh, h.ner, h.neh, by simp, by omega, by omega, by omega, by unfold World.cell?; rw [hn]; simp, by unfold World.cell?; rw [hn]; simp⟩

set_option maxRecDepth 8000 in
set_option maxHeartbeats 2000000 in
theorem acts_walk (A : Nat → Addr) (a0 : Option Addr) (len0 cap0 : Nat) (l0 : List ActA) (a1 : Option Addr) (len1 cap1 : Nat) (z1 : List Int) (w : World) (hS : Sents A w)
    (R0 : RdR ActA.enc 3 w a0 len0 cap0 l0) (R1 : RdI .i64 w a1 len1 cap1 z1) (hl : len0 ≤ 100) :
    Calls Tryd.prog 5 #[.slice a0 len0 cap0, .slice a1 len1 cap1] w fun e w' => e = .returned (.bool true) ∧ Below w.heap.size w w' := by
  have HS := Lib.hid hS; clear hS
  have HR0 := Lib.hid R0; clear R0
  have HR1 := Lib.hid R1; clear R1
  have m2 : (2 : Nat) ∈ [1, 2, 3, 4, 5, 6, 7, 8, 9, 10] := by decide
  have m6 : (6 : Nat) ∈ [1, 2, 3, 4, 5, 6, 7, 8, 9, 10] := by decide
  have d1 : decide ((100 : Int) < (len0 : Int)) = false := by simp; omega
  go_enter Tryd.func5, Tryd.ntmps5
  go_wp2_with fail
  refine (law_pursed A _ _ HS.out.errs m2 m6).mono ?_
  rintro e w0 ⟨rfl, hb0⟩
  go_wp2_with fail
  refine (purse_New _).mono ?_
  rintro e w1 ⟨rfl, hb1, hp1⟩
  go_wp2_with fail
  refine (refp_New _).mono ?_
  rintro e w2 ⟨rb, rh, rfl, hb2, hr1, hr2, hrp⟩
  have hs1 := hb1.size; have hs0 := hb0.size; have hpl := RowAt.lt hp1.row
  have b01 := btrans hb0 hb1
  have A0 := Lib.hid (show Acts w w0.heap.size rb rh PS.new w2 from ⟨hp1.keep' (Keep.of_below hb2 : Keep (fun _ => False) _ _) id, hrp, btrans b01 hb2, hs0, by omega, by omega, by omega, by omega⟩)
  generalize w0.heap.size = b at *
  have HF := Lib.hid (far_new HS.out.errs hs0)
  clear hp1 hb1 hb2 hr1 hr2 hrp hs1 hs0 hpl b01
  go_wp2_with fail
  go_loopg [8] len0 (fun g i wr => ∃ (k : Nat) (p : PS), Acts w b rb rh p wr ∧ g + k = len0 ∧ i = .int .i64 k)
  case atStart => exact ⟨0, PS.new, A0.out, rfl, rfl⟩
  case round =>
    clear A0
    obtain ⟨k, p, L, hg, rfl⟩ := hrel
    by_cases hlt : k < len0
    · obtain ⟨x, hx⟩ : ∃ x, l0[k]? = some x := ⟨_, List.getElem?_eq_getElem (by rw [HR0.out.size]; exact hlt)⟩
      obtain ⟨bb, off, rfl, hbl, hcs⟩ := (HR0.out.below L.below).cells k x hx
      have c0 := hcs 0 (by decide)
      have c1 := hcs 1 (by decide)
      have c2 := hcs 2 (by decide)
      simp only [ActA.enc, List.getElem?_cons_zero, List.getElem?_cons_succ, Nat.add_zero] at c0 c1 c2
      have hG := Lib.hid hg; clear hg hcs hx
      obtain ⟨s, o, n⟩ := x
      simp only at c0 c1 c2
      have HA := Lib.hid (L.begin (.string s) o n 57); clear L
      go_upto_block 2 with fail
      go_cut [10] (fun s10 wx => s10 = .bool true ∧ ∃ q : PS, Acts w b rb rh q wx)
      case first =>
        by_cases m20 : (s.toList == [109, 105, 110, 116]) = true
        · go_wp2_with fail
          go_region_held3 (fun w' => w'.cell? ⟨wr.heap.size, 1, none⟩ = some (.int .i64 o) ∧ w'.cell? ⟨wr.heap.size, 2, none⟩ = some (.int .i64 n)) (first | exact ⟨H1.out.c1, H1.out.c2⟩ | exact ⟨H2.out.c1, H2.out.c2⟩ | exact ⟨H3.out.c1, H3.out.c2⟩ | exact ⟨HA.out.c1, HA.out.c2⟩)
            (first
              | (go_at_call 27; refine (purse_Mint A [1, 2, 3, 4, 5, 6, 7, 8, 9, 10] _ p o n _ (HS.out.below (HA.out.drewN 1).below).errs m2 (HA.out.drewN 1).purse).mono ?_; rintro e wa ⟨rfl, ka⟩; have H1 := Lib.hid ((HA.out.drewN 1).law ka))
              | (go_at_call 28; refine (refp_Mint _ _ p o n _ H1.out.ref).mono ?_; rintro e wb ⟨rfl, kb⟩; have H2 := Lib.hid (H1.out.doc kb))
              | (go_at_call 26; refine (law1_coded A _ mintOp_le _ (HS.out.below H2.out.below)).mono ?_; rintro e wc ⟨rfl, kc⟩; have H3 := Lib.hid (H2.out.next kc)))
          go_wp2_with fail
          go_meet
          case rel => exact ⟨rfl, _, H3.out.acts⟩
        · have n20 : (s.toList == [109, 105, 110, 116]) = false := by simpa using m20
          clear m20
          by_cases m21 : (s.toList == [111, 117, 116]) = true
          · go_wp2_with fail
            go_region_held3 (fun w' => w'.cell? ⟨wr.heap.size, 1, none⟩ = some (.int .i64 o) ∧ w'.cell? ⟨wr.heap.size, 2, none⟩ = some (.int .i64 n)) (first | exact ⟨H1.out.c1, H1.out.c2⟩ | exact ⟨H2.out.c1, H2.out.c2⟩ | exact ⟨H3.out.c1, H3.out.c2⟩ | exact ⟨HA.out.c1, HA.out.c2⟩)
              (first
                | (go_at_call 29; refine (purse_Out A [1, 2, 3, 4, 5, 6, 7, 8, 9, 10] _ p o n _ (HS.out.below (HA.out.drewN 1).below).errs m2 m6 (HA.out.drewN 1).purse).mono ?_; rintro e wa ⟨rfl, ka⟩; have H1 := Lib.hid ((HA.out.drewN 1).law ka))
                | (go_at_call 30; refine (refp_Out _ _ p o n _ H1.out.ref).mono ?_; rintro e wb ⟨rfl, kb⟩; have H2 := Lib.hid (H1.out.doc kb))
                | (go_at_call 26; refine (law1_coded A _ outOp_le _ (HS.out.below H2.out.below)).mono ?_; rintro e wc ⟨rfl, kc⟩; have H3 := Lib.hid (H2.out.next kc)))
            go_wp2_with fail
            go_meet
            case rel => exact ⟨rfl, _, H3.out.acts⟩
          · have n21 : (s.toList == [111, 117, 116]) = false := by simpa using m21
            clear m21
            by_cases m22 : (s.toList == [105, 110]) = true
            · go_wp2_with fail
              go_region_held3 (fun w' => w'.cell? ⟨wr.heap.size, 1, none⟩ = some (.int .i64 o) ∧ w'.cell? ⟨wr.heap.size, 2, none⟩ = some (.int .i64 n)) (first | exact ⟨H1.out.c1, H1.out.c2⟩ | exact ⟨H2.out.c1, H2.out.c2⟩ | exact ⟨H3.out.c1, H3.out.c2⟩ | exact ⟨HA.out.c1, HA.out.c2⟩)
                (first
                  | (go_at_call 31; refine (purse_In A [1, 2, 3, 4, 5, 6, 7, 8, 9, 10] _ p o n _ (HS.out.below (HA.out.drewN 1).below).errs m2 m6 (HA.out.drewN 1).purse).mono ?_; rintro e wa ⟨rfl, ka⟩; have H1 := Lib.hid ((HA.out.drewN 1).law ka))
                  | (go_at_call 32; refine (refp_In _ _ p o n _ H1.out.ref).mono ?_; rintro e wb ⟨rfl, kb⟩; have H2 := Lib.hid (H1.out.doc kb))
                  | (go_at_call 26; refine (law1_coded A _ inOp_le _ (HS.out.below H2.out.below)).mono ?_; rintro e wc ⟨rfl, kc⟩; have H3 := Lib.hid (H2.out.next kc)))
              go_wp2_with fail
              go_meet
              case rel => exact ⟨rfl, _, H3.out.acts⟩
            · have n22 : (s.toList == [105, 110]) = false := by simpa using m22
              clear m22
              by_cases m23 : (s.toList == [98, 117, 114, 110]) = true
              · go_wp2_with fail
                go_region_held3 (fun w' => w'.cell? ⟨wr.heap.size, 1, none⟩ = some (.int .i64 o) ∧ w'.cell? ⟨wr.heap.size, 2, none⟩ = some (.int .i64 n)) (first | exact ⟨H1.out.c1, H1.out.c2⟩ | exact ⟨H2.out.c1, H2.out.c2⟩ | exact ⟨H3.out.c1, H3.out.c2⟩ | exact ⟨HA.out.c1, HA.out.c2⟩)
                  (first
                    | (go_at_call 33; refine (purse_Burn A [1, 2, 3, 4, 5, 6, 7, 8, 9, 10] _ p n _ (HS.out.below (HA.out.drewN 1).below).errs m2 m6 (HA.out.drewN 1).purse).mono ?_; rintro e wa ⟨rfl, ka⟩; have H1 := Lib.hid ((HA.out.drewN 1).law ka))
                    | (go_at_call 34; refine (refp_Burn _ _ p n _ H1.out.ref).mono ?_; rintro e wb ⟨rfl, kb⟩; have H2 := Lib.hid (H1.out.doc kb))
                    | (go_at_call 26; refine (law1_coded A _ burnOp_le _ (HS.out.below H2.out.below)).mono ?_; rintro e wc ⟨rfl, kc⟩; have H3 := Lib.hid (H2.out.next kc)))
                go_wp2_with fail
                go_meet
                case rel => exact ⟨rfl, _, H3.out.acts⟩
              · have n23 : (s.toList == [98, 117, 114, 110]) = false := by simpa using m23
                clear m23
                by_cases m24 : (s.toList == [103, 114, 111, 119]) = true
                · go_wp2_with fail
                  go_region_held3 (fun w' => w'.cell? ⟨wr.heap.size, 1, none⟩ = some (.int .i64 o) ∧ w'.cell? ⟨wr.heap.size, 2, none⟩ = some (.int .i64 n)) (first | exact ⟨H1.out.c1, H1.out.c2⟩ | exact ⟨H2.out.c1, H2.out.c2⟩ | exact ⟨H3.out.c1, H3.out.c2⟩ | exact ⟨HA.out.c1, HA.out.c2⟩)
                    (first
                      | (go_at_call 35; refine (purse_Grow A [1, 2, 3, 4, 5, 6, 7, 8, 9, 10] _ p n _ (HS.out.below (HA.out.drewN 1).below).errs m2 (HA.out.drewN 1).purse).mono ?_; rintro e wa ⟨rfl, ka⟩; have H1 := Lib.hid ((HA.out.drewN 1).law ka))
                      | (go_at_call 36; refine (refp_Grow _ _ p n _ H1.out.ref).mono ?_; rintro e wb ⟨rfl, kb⟩; have H2 := Lib.hid (H1.out.doc kb))
                      | (go_at_call 26; refine (law1_coded A _ growOp_le _ (HS.out.below H2.out.below)).mono ?_; rintro e wc ⟨rfl, kc⟩; have H3 := Lib.hid (H2.out.next kc)))
                  go_wp2_with fail
                  go_meet
                  case rel => exact ⟨rfl, _, H3.out.acts⟩
                · have n24 : (s.toList == [103, 114, 111, 119]) = false := by simpa using m24
                  clear m24
                  by_cases hto : k < len1
                  · obtain ⟨b1, off1, ha1, hcl1⟩ := (HR1.out.below HA.out.below).cells k hto
                    have ha1' := Lib.hid ha1; clear ha1
                    have := ha1'.out; subst this
                    have hlt1 := World.block_lt_of_cell? _ _ hcl1
                    generalize z1.getD k 0 = y at *
                    go_wp2_with fail
                    go_region_held3 (fun w' => w'.cell? ⟨wr.heap.size, 1, none⟩ = some (.int .i64 o) ∧ w'.cell? ⟨wr.heap.size, 2, none⟩ = some (.int .i64 n)) (first | exact ⟨H1.out.c1, H1.out.c2⟩ | exact ⟨H2.out.c1, H2.out.c2⟩ | exact ⟨H3.out.c1, H3.out.c2⟩ | exact ⟨HA.out.c1, HA.out.c2⟩)
                      (first
                        | (go_at_call 37; refine (purse_Move A [1, 2, 3, 4, 5, 6, 7, 8, 9, 10] _ p o _ n _ (HS.out.below (HA.out.drewN 1).below).errs m2 m6 HF.out (HA.out.drewN 1).purse).mono ?_; rintro e wa ⟨rfl, ka⟩; have H1 := Lib.hid ((HA.out.drewN 1).law ka))
                        | (go_at_call 38; refine (refp_Move _ _ p o _ n _ H1.out.ref).mono ?_; rintro e wb ⟨rfl, kb⟩; have H2 := Lib.hid (H1.out.doc kb))
                        | (go_at_call 26; refine (law1_coded A _ moveOp_le _ (HS.out.below H2.out.below)).mono ?_; rintro e wc ⟨rfl, kc⟩; have H3 := Lib.hid (H2.out.next kc)))
                    go_wp2_with fail
                    go_meet
                    case rel => exact ⟨rfl, _, H3.out.acts⟩
                  · go_wp2_with fail
                    go_region_held3 (fun w' => w'.cell? ⟨wr.heap.size, 1, none⟩ = some (.int .i64 o) ∧ w'.cell? ⟨wr.heap.size, 2, none⟩ = some (.int .i64 n)) (first | exact ⟨H1.out.c1, H1.out.c2⟩ | exact ⟨H2.out.c1, H2.out.c2⟩ | exact ⟨H3.out.c1, H3.out.c2⟩ | exact ⟨HA.out.c1, HA.out.c2⟩)
                      (first
                        | (go_at_call 37; refine (purse_Move A [1, 2, 3, 4, 5, 6, 7, 8, 9, 10] _ p o _ n _ (HS.out.below (HA.out.drewN 1).below).errs m2 m6 HF.out (HA.out.drewN 1).purse).mono ?_; rintro e wa ⟨rfl, ka⟩; have H1 := Lib.hid ((HA.out.drewN 1).law ka))
                        | (go_at_call 38; refine (refp_Move _ _ p o _ n _ H1.out.ref).mono ?_; rintro e wb ⟨rfl, kb⟩; have H2 := Lib.hid (H1.out.doc kb))
                        | (go_at_call 26; refine (law1_coded A _ moveOp_le _ (HS.out.below H2.out.below)).mono ?_; rintro e wc ⟨rfl, kc⟩; have H3 := Lib.hid (H2.out.next kc)))
                    go_wp2_with fail
                    go_meet
                    case rel => exact ⟨rfl, _, H3.out.acts⟩
      case rest =>
        clear HA
        obtain ⟨rfl, q, L2⟩ := hcut
        have HL2 := Lib.hid L2; clear L2
        have ne : (q.supply != q.supply) = false := bne_self_eq_false _
        have hss : decide (q.supply < q.sum) = false := decide_eq_false (by have := HL2.out.purse.ok.le; omega)
        have cs := HL2.out.ref.c1
        have ch := HL2.out.ref.c0
        have hS1 := fun wx hw => purse_Supply b q wx hw
        have HS1 := Lib.hid hS1; clear hS1
        have hS2 := fun wx hw => refp_Sum rb rh q wx hw
        have HS2 := Lib.hid hS2; clear hS2
        generalize hy : q.supply = y at *
        generalize hz : q.sum = z at *
        go_wp2_with fail
        go_quiet ((first
          | (go_at_call 39; exact Calls.quiet_of_same ((HS1.out _ (HL2.out.drewN _).purse).mono fun _ _ ⟨a, b⟩ => ⟨a, b.symm⟩))
          | (go_at_call 40; exact Calls.quiet_of_same ((HS2.out _ (HL2.out.drewN _).ref).mono fun _ _ ⟨a, b⟩ => ⟨a, b.symm⟩))))
        go_wp2_with fail
        clear ne hss cs ch hy hz HS1 HS2
        go_loopw [12] (fun i wx => ∃ j : Nat, j ≤ 6 ∧ i = .int .i64 j ∧ Acts w b rb rh q wx) (fun i _ => 6 - (intOf i).toNat)
        case atStart => exact ⟨0, by omega, rfl, HL2.out.drewN _⟩
        case round =>
          clear HL2
          obtain ⟨j, hj, rfl, LJ⟩ := hrel
          have HLJ := Lib.hid LJ; clear LJ
          by_cases hj6 : j < 6
          · have hH := fun wx hw => purse_Has b q (j : Int) wx hw
            rw [if_pos (ownB_iff.2 (by omega))] at hH
            have HH := Lib.hid hH; clear hH
            have ch := HLJ.out.ref.c0
            have cj := HLJ.out.ref.hc hj6
            generalize q.at (j : Int) = v at *
            have nv : (v != v) = false := bne_self_eq_false _
            go_wp2_with fail
            go_quiet ((go_at_call 41; exact Calls.quiet_of_same ((HH.out _ (HLJ.out.drewN _).purse).mono fun _ _ ⟨a, b⟩ => ⟨a, b.symm⟩)))
            go_wp2_with fail
            go_roundw
            case rel => exact ⟨j + 1, by omega, by go_num, HLJ.out.drewN _⟩
            case measure => simp [intOf]; omega
          · obtain rfl : j = 6 := by omega
            go_wp2_with fail
            have hg := hG.out
            go_roundg (len0 - (k + 1))
            case measure => omega
            case rel => exact ⟨k + 1, q, HLJ.out, by omega, by go_num⟩
    · have hle : len0 ≤ k := by omega
      clear hlt
      have HL := Lib.hid L; clear L
      have hG := Lib.hid hg; clear hg
      have hH := fun o => purse_Has b p o wr HL.out.purse
      have h1 := hH (-1)
      have h2 := hH 6
      rw [show ownB (-1) = false from rfl] at h1
      rw [show ownB 6 = false from rfl] at h2
      have HH1 := Lib.hid h1; have HH2 := Lib.hid h2
      clear hH h1 h2
      go_wp2_with fail
      refine HH1.out.mono ?_
      rintro e w9 ⟨rfl, rfl⟩
      go_wp2_with fail
      refine HH2.out.mono ?_
      rintro e w9 ⟨rfl, rfl⟩
      go_wp2_with fail
      go_ret
      exact ⟨rfl, HL.out.below⟩

set_option maxRecDepth 8000 in
theorem acts_all (A : Nat → Addr) (a0 : Option Addr) (len0 cap0 : Nat) (l0 : List ActA) (a1 : Option Addr) (len1 cap1 : Nat) (z1 : List Int) (w : World) (hS : Sents A w)
    (R0 : RdR ActA.enc 3 w a0 len0 cap0 l0) (R1 : RdI .i64 w a1 len1 cap1 z1) :
    Calls Tryd.prog 5 #[.slice a0 len0 cap0, .slice a1 len1 cap1] w fun e w' => e = .returned (.bool true) ∧ Below w.heap.size w w' := by
  by_cases hl : len0 ≤ 100
  · exact acts_walk A a0 len0 cap0 l0 a1 len1 cap1 z1 w hS R0 R1 hl
  · have HS := Lib.hid hS; clear hS R0 R1
    have m2 : (2 : Nat) ∈ [1, 2, 3, 4, 5, 6, 7, 8, 9, 10] := by decide
    have m6 : (6 : Nat) ∈ [1, 2, 3, 4, 5, 6, 7, 8, 9, 10] := by decide
    have d1 : decide ((100 : Int) < (len0 : Int)) = true := by simp; omega
    go_enter Tryd.func5, Tryd.ntmps5
    go_wp2_with fail
    refine (law_pursed A _ _ HS.out.errs m2 m6).mono ?_
    rintro e w0 ⟨rfl, hb0⟩
    go_wp2
    go_ret
    exact ⟨rfl, hb0⟩
end Go.Proofs.YtajnfkmkombajabDoor
