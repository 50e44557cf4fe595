/- The walk of CourtOnce. -/
import Derived.Test.YtajnfkmkombajabDoorCourt4
import Derived.Test.YtajnfkmkombajabDoorOpenB
import Derived.Test.YtajnfkmkombajabDoorAppRow
import Derived.Test.YtajnfkmkombajabDoorEvEq
import Derived.Deep.RegionWith
import Derived.Deep.RegionHeld3
import Derived.Deep.DeepCutAuto
import Derived.Deep.CutBlock
import Derived.Deep.LoopGhost
import Derived.Deep.QuietTactic
import Derived.BigQuiet
set_option linter.unusedVariables false
set_option linter.unusedSimpArgs false
namespace Go.Proofs.YtajnfkmkombajabDoor
open Go.RowKit Go.Maps

theorem brt_len (x : Brt) : x.enc.length = 6 := rfl
theorem case_len (x : Int × EV) : (caseE x).length = 4 := rfl
def Brt.case (x : Brt) : Int × EV := (x.owner, x.e)
/-- what the law keeps: the court, what was taken, what was due -/
structure OnceS (W : World) (kb : Nat) (F : Nat → Prop) (n : Nat) (T : List Brt) (k : KS) (tv uv : Value) (w : World) : Prop where
  cu : CU W kb F n k w
  tk : w.ownsRow W.heap.size 30 6 tv T.length (T.flatMap Brt.enc)
  du : w.ownsRow W.heap.size 36 4 uv k.done (casesE (k.L.take k.done))
  d1 : ∀ g, tv.ownBlock = some g → ¬ F g
  d2 : ∀ g, uv.ownBlock = some g → ¬ F g
  d3 : ∀ g, tv.ownBlock = some g → uv.ownBlock ≠ some g
  same : k.L = T.map Brt.case
section
variable {W w w' : World} {kb n m : Nat} {F : Nat → Prop} {T : List Brt} {k : KS} {tv uv : Value}
theorem OnceS.done (h : OnceS W kb F n T k tv uv w) : k.done ≤ k.L.length := by obtain ⟨mb, dv, hL, _⟩ := h.cu.ct; exact hL.done
theorem OnceS.len (h : OnceS W kb F n T k tv uv w) : k.L.length = T.length := by rw [h.same, List.length_map]
theorem OnceS.next (h : OnceS W kb F n T k tv uv w) (b : Below w.heap.size w w') : OnceS W kb F n T k tv uv w' :=
  ⟨h.cu.next b, ownsRow_other h.tk (fun g hg => b.block g (h.tk.lt g hg).2), ownsRow_other h.du (fun g hg => b.block g (h.du.lt g hg).2), h.d1, h.d2, h.d3, h.same⟩
theorem OnceS.drewN (h : OnceS W kb F n T k tv uv w) (j : Nat) : OnceS W kb F n T k tv uv (w.drewN j) := h.next ((Below.refl _ _).drewN j)
theorem KS.asked_L (k : KS) : k.asked.L = k.L := rfl
theorem OnceS.asked (h : OnceS W kb F n T k tv uv w) {uv2 : Value} {w1 w2 : World} (K : Keep F w w1) (c : CourtAt kb F n k.asked w1) (hr : w2.ownsRow W.heap.size 36 4 uv2 (k.done + k.due.length) (casesE (k.L.take k.done) ++ casesE k.due)) (hg : w1.grownBy w2 uv.ownBlock) (hb : uv2.ownBlock = uv.ownBlock ∨ uv2.ownBlock = some w1.heap.size) : OnceS W kb F n T k.asked tv uv2 w2 := by
  have hdn := h.done
  have hu : ∀ g, uv.ownBlock = some g → W.heap.size ≤ g ∧ g < w.heap.size := fun g hg => h.du.lt g hg
  have ht : ∀ g, tv.ownBlock = some g → W.heap.size ≤ g ∧ g < w.heap.size := fun g hg => h.tk.lt g hg
  have K2 : Keep (fun b => uv.ownBlock = some b) w1 w2 := (Keep.refl _ _).grown hg (fun b hb => .inl hb)
  have hks := K.size
  refine ⟨(h.cu.due K c).keep K2 (fun b hb => (hu b hb).1) (fun b hb hu' => h.d2 b hu' hb), ownsRow_other h.tk (fun g hg => ?_), ?_, h.d1, fun g hg hF => ?_, fun g hg hg2 => ?_, h.same⟩
  · have := ht g hg
    rw [K2.block g (by omega) (h.d3 g hg), K.block g this.2 (h.d1 g hg)]
  · have e1 : k.asked.done = k.done + k.due.length := by unfold KS.asked KS.due; rw [List.length_drop]; simp only; omega
    have e2 : k.asked.L.take k.asked.done = k.L.take k.done ++ k.due := by
      unfold KS.asked KS.due; simp only; rw [List.take_length, List.take_append_drop]
    rw [e1, show k.asked.L.take (k.done + k.due.length) = k.L.take k.done ++ k.due by rw [← e1]; exact e2]
    unfold casesE at hr ⊢
    rw [List.flatMap_append]; exact hr
  · rcases hb with hb | hb
    · exact h.d2 g (by rw [← hb]; exact hg) hF
    · rw [hb] at hg
      have : w1.heap.size = g := by simpa using hg
      have := h.cu.ct.lt g hF
      omega
  · rcases hb with hb | hb
    · exact h.d3 g hg (by rw [← hb]; exact hg2)
    · rw [hb] at hg2
      have : w1.heap.size = g := by simpa using hg2
      have := ht g hg
      omega
/-- the court alone has turned, but holds the same cases -/
theorem OnceS.of (h : OnceS W kb F n T k tv uv w) (p : CourtP kb F m k w w') : OnceS W kb (grownF F w w') m T k tv uv w' := by
  have hu := fun g hg => h.du.lt g hg
  have ht := fun g hg => h.tk.lt g hg
  refine ⟨h.cu.of p, ownsRow_other h.tk (fun g hg => p.1.block g (ht g hg).2 (h.d1 g hg)), ownsRow_other h.du (fun g hg => p.1.block g (hu g hg).2 (h.d2 g hg)), fun g hg hF => ?_, fun g hg hF => ?_, h.d3, h.same⟩
  · rcases hF with hF | hF
    · exact h.d1 g hg hF
    · have := ht g hg; omega
  · rcases hF with hF | hF
    · exact h.d2 g hg hF
    · have := hu g hg; omega
/-- one case more was taken; it is not yet among those that the law keeps -/
structure OnceT (W : World) (kb : Nat) (F : Nat → Prop) (n : Nat) (T : List Brt) (x : Brt) (k : KS) (tv uv : Value) (w : World) : Prop where
  cu : CU W kb F n ⟨k.L ++ [x.case], k.done⟩ w
  tk : w.ownsRow W.heap.size 30 6 tv T.length (T.flatMap Brt.enc)
  du : w.ownsRow W.heap.size 36 4 uv k.done (casesE (k.L.take k.done))
  d1 : ∀ g, tv.ownBlock = some g → ¬ F g
  d2 : ∀ g, uv.ownBlock = some g → ¬ F g
  d3 : ∀ g, tv.ownBlock = some g → uv.ownBlock ≠ some g
  same : k.L = T.map Brt.case
  done : k.done ≤ k.L.length
theorem OnceS.took (h : OnceS W kb F n T k tv uv w) {x : Brt} (p : CourtP kb F m ⟨k.L ++ [x.case], k.done⟩ w w') : OnceT W kb (grownF F w w') m T x k tv uv w' := by
  have hu := fun g hg => h.du.lt g hg
  have ht := fun g hg => h.tk.lt g hg
  refine ⟨h.cu.of p, ownsRow_other h.tk (fun g hg => p.1.block g (ht g hg).2 (h.d1 g hg)), ownsRow_other h.du (fun g hg => p.1.block g (hu g hg).2 (h.d2 g hg)), fun g hg hF => ?_, fun g hg hF => ?_, h.d3, h.same, h.done⟩
  · rcases hF with hF | hF
    · exact h.d1 g hg hF
    · have := ht g hg; omega
  · rcases hF with hF | hF
    · exact h.d2 g hg hF
    · have := hu g hg; omega
theorem OnceT.next {x : Brt} (h : OnceT W kb F n T x k tv uv w) (b : Below w.heap.size w w') : OnceT W kb F n T x k tv uv w' :=
  ⟨h.cu.next b, ownsRow_other h.tk (fun g hg => b.block g (h.tk.lt g hg).2), ownsRow_other h.du (fun g hg => b.block g (h.du.lt g hg).2), h.d1, h.d2, h.d3, h.same, h.done⟩
theorem OnceT.drewN {x : Brt} (h : OnceT W kb F n T x k tv uv w) (j : Nat) : OnceT W kb F n T x k tv uv (w.drewN j) := h.next ((Below.refl _ _).drewN j)
theorem OnceT.kept {x : Brt} (h : OnceT W kb F n T x k tv uv w) {tv2 : Value} (hr : w'.ownsRow W.heap.size 30 6 tv2 (T.length + 1) (T.flatMap Brt.enc ++ x.enc)) (hg : w.grownBy w' tv.ownBlock) (hb : tv2.ownBlock = tv.ownBlock ∨ tv2.ownBlock = some w.heap.size) : OnceS W kb F n (T ++ [x]) ⟨k.L ++ [x.case], k.done⟩ tv2 uv w' := by
  have hu := fun g hg => h.du.lt g hg
  have ht := fun g hg => h.tk.lt g hg
  have K2 : Keep (fun b => tv.ownBlock = some b) w w' := (Keep.refl _ _).grown hg (fun b hb => .inl hb)
  refine ⟨h.cu.keep K2 (fun b hb => (ht b hb).1) (fun b hb hu' => h.d1 b hu' hb), ?_, ?_, fun g hg hF => ?_, h.d2, fun g hg hg2 => ?_, ?_⟩
  · rw [List.length_append, List.flatMap_append]; simpa using hr
  · have hd := h.done
    show w'.ownsRow _ _ 4 uv k.done (casesE ((k.L ++ [x.case]).take k.done))
    rw [List.take_append_of_le_length hd]
    exact ownsRow_other h.du (fun g hg => K2.block g (hu g hg).2 (fun e => h.d3 g e hg))
  · rcases hb with hb | hb
    · exact h.d1 g (by rw [← hb]; exact hg) hF
    · rw [hb] at hg
      have : w.heap.size = g := by simpa using hg
      have := h.cu.ct.lt g hF
      omega
  · rcases hb with hb | hb
    · exact h.d3 g (by rw [← hb]; exact hg) hg2
    · rw [hb] at hg
      have : w.heap.size = g := by simpa using hg
      have := hu g hg2
      omega
  · show k.L ++ [x.case] = (T ++ [x]).map Brt.case
    rw [h.same]; simp
end
theorem once_new {W w : World} {kb : Nat} {F : Nat → Prop} (h : CU W kb F 0 KS.new w) : OnceS W kb F 0 [] KS.new (.slice none 0 0) (.slice none 0 0) w :=
  ⟨h, World.ownsRow_nil _ _ _ _, World.ownsRow_nil _ _ _ _, (fun g hg => by cases hg), (fun g hg => by cases hg), (fun g hg => by cases hg), rfl⟩
/-- evidence that is taken is none of those that were -/
theorem KS.fresh {k : KS} {o : Int} {e : EV} {cy : Int} (h : k.code o e cy = 0) {x : Int × EV} (hx : x ∈ k.L) : x.2 ≠ e := by
  intro he
  have : k.has e = true := by unfold KS.has; rw [List.any_eq_true]; exact ⟨x, hx, by simp [he]⟩
  unfold KS.code at h
  split at h
  · cases h
  · split at h
    · cases h
    · rw [KS.has_wf, this] at h; cases h
theorem caseE_one (l : List (Int × EV)) : ∀ u ∈ casesE l, u.oneCell' = true := by
  intro u hu
  unfold casesE at hu
  obtain ⟨x, _, hx⟩ := List.mem_flatMap.1 hu
  simp [caseE] at hx
  rcases hx with rfl | rfl | rfl | rfl <;> rfl
theorem brt_one (x : Brt) : ∀ u ∈ x.enc, u.oneCell' = true := by
  intro u hu
  simp [Brt.enc] at hu
  rcases hu with rfl | rfl | rfl | rfl | rfl | rfl <;> rfl
theorem infoBrt : (Tryd.prog.info? 30).map (fun i => (i.zero.map (fun z => z.cells.size), i.size, i.bytes)) = some (some 6, 6, 48) := by kernel_rfl
theorem info_brt : ∃ i z, Tryd.prog.info? 30 = some i ∧ i.zero = some z ∧ i.size = 6 ∧ i.bytes = 48 ∧ z.cells.size = 6 := by
  have h := infoBrt
  cases hi : Tryd.prog.info? 30 with
  | none => rw [hi] at h; cases h
  | some i =>
    rw [hi] at h
    simp only [Option.map_some, Option.some.injEq, Prod.mk.injEq] at h
    obtain ⟨h1, h2, h3⟩ := h
    cases hz : i.zero with
    | none => rw [hz] at h1; cases h1
    | some z => rw [hz] at h1; simp at h1; exact ⟨i, z, rfl, hz, h2, h3, h1⟩

set_option maxRecDepth 8000 in
set_option maxHeartbeats 4000000 in
theorem once_walk (A : Nat → Addr) (a0 : Option Addr) (len0 cap0 : Nat) (l0 : List Brt) (w : World) (hS : Sents A w) (R0 : RdR Brt.enc 6 w a0 len0 cap0 l0) (hwf : ∀ x ∈ l0, x.wf) (hl : len0 ≤ 100) :
    Calls Tryd.prog 3 #[.slice a0 len0 cap0] w fun e w' => e = .returned (.bool true) ∧ Below w.heap.size w w' := by
  obtain ⟨i0, z0, hi, hz0, hz1, hz2, hz3⟩ := info_case
  obtain ⟨j0, y0, hj, hy0, hy1, hy2, hy3⟩ := info_brt
  have HS := Lib.hid hS; clear hS
  have HR0 := Lib.hid R0; clear R0
  have HWF := Lib.hid hwf; clear hwf
  have m2 : (2 : Nat) ∈ [1, 2, 3, 4, 5, 6, 7, 8, 9, 10] := by decide
  have m5 : (5 : Nat) ∈ [1, 2, 3, 4, 5, 6, 7, 8, 9, 10] := by decide
  have m10 : (10 : Nat) ∈ [1, 2, 3, 4, 5, 6, 7, 8, 9, 10] := by decide
  have d1 : decide ((100 : Int) < (len0 : Int)) = false := by simp; omega
  go_enter Tryd.func3, Tryd.ntmps3
  go_wp2_with fail
  refine (law_judged A _ HS.out).mono ?_
  rintro e w0 ⟨rfl, hb0⟩
  go_wp2_with fail
  refine (court_New _).mono ?_
  rintro e w1 ⟨rfl, hb1, hc1⟩
  have U0 := Lib.hid (once_new (show CU w (w0.heap.size + 1) (fun b => b = w0.heap.size ∨ b = w0.heap.size + 1) 0 KS.new w1 from ⟨btrans hb0 hb1, hc1, fun b hb => by have := hb0.size; rcases hb with rfl | rfl <;> omega⟩))
  clear hb1 hc1 hb0
  generalize w0.heap.size + 1 = kb at *
  go_wp2_with fail
  go_loopg [5, 6, 7] len0 (fun g tv uv i wr => ∃ (t n : Nat) (F : Nat → Prop) (T : List Brt) (k : KS), OnceS w kb F n T k tv uv wr ∧ g + t = len0 ∧ i = .int .i64 t ∧ T.length ≤ t ∧ n ≤ t ∧ ∀ x ∈ T, x.wf)
  case atStart => exact ⟨0, 0, _, [], KS.new, U0.out, rfl, rfl, by decide, by decide, fun x hx => by cases hx⟩
  case round =>
    clear U0
    obtain ⟨t, n, F, T, k, hO, hg, rfl, hT, hn, hTw⟩ := hrel
    have HO := Lib.hid hO; clear hO
    have HG := Lib.hid (And.intro hg (And.intro hT (And.intro hn hTw))); clear hg hT hn hTw
    by_cases hlt : t < len0
    · obtain ⟨x, hx⟩ : ∃ x, l0[t]? = some x := ⟨_, List.getElem?_eq_getElem (by rw [HR0.out.size]; exact hlt)⟩
      obtain ⟨bb, off, rfl, hbl, hcs⟩ := (HR0.out.below HO.out.cu.below).cells t x hx
      have hxw := HWF.out x (List.mem_of_getElem? hx)
      have c0 := hcs 0 (by decide)
      have c1 := hcs 1 (by decide)
      have c2 := hcs 2 (by decide)
      have c3 := hcs 3 (by decide)
      have c4 := hcs 4 (by decide)
      have c5 := hcs 5 (by decide)
      simp only [Brt.enc, List.getElem?_cons_zero, List.getElem?_cons_succ, Nat.add_zero] at c0 c1 c2 c3 c4 c5
      obtain ⟨o, e, cy, du⟩ := x
      simp only at c0 c1 c2 c3 c4 c5
      have HX := Lib.hid (And.intro hx hxw); clear hx hxw hcs
      go_upto_if 32 with fail
      go_cut [6] (fun s6 wx => ∃ F' k', OnceS w kb F' n T k' u5 s6 wx)
      case first =>
        cases du with
        | false =>
          go_wp2_with fail
          go_meet
          case rel => exact ⟨_, _, HO.out⟩
        | true =>
          have hkl := HO.out.len
          have hdl := HO.out.done
          have hge := HG.out.2.1
          have hdu : k.due.length ≤ 100 := by unfold KS.due; rw [List.length_drop]; omega
          go_wp2_with fail
          refine (court_Due kb F n k _ HO.out.cu.ct (by omega)).mono ?_
          rintro y w1 ⟨v', rfl, ho, hK, hc⟩
          have HV := Lib.hid ho
          have HU1 := Lib.hid (ownsRow_other HO.out.du (fun g hg => hK.block g (HO.out.du.lt g hg).2 (HO.out.d2 g hg)))
          have hbs : w.heap.size ≤ w1.heap.size := Nat.le_trans HO.out.cu.below.size hK.size
          have HK := Lib.hid (And.intro hK hc); clear ho hK hc
          go_wp2_with (at_builtin; refine wpList_append_row _ rfl (.tmp 33) (.tmp 35) 26 rfl w.heap.size 36 i0 z0 4 32 Tryd.underlying26 hi hz0 hz1 hz2 hz3 (by decide) u6 k.done (casesE (k.L.take k.done)) rfl HU1.out wr.heap.size v' k.due.length (casesE k.due) rfl HV.out (caseE_one _) (by unfold maxLen; omega) (by omega) hbs ?_)
          intro v2 w2 hr hg hb
          have HO2 := Lib.hid (HO.out.asked HK.out.1 HK.out.2 hr hg hb)
          clear hr hg hb
          go_wp2_with fail
          go_meet
          case rel => exact ⟨_, _, HO2.out⟩
      case rest =>
        obtain ⟨F2, k2, hO2⟩ := hcut
        have HO2 := Lib.hid hO2; clear hO2 c0 c1 c2 c3 c4 c5 HO F k
        obtain ⟨b9, off9, e9, hbl9, hcs⟩ := (HR0.out.below HO2.out.cu.below).cells t ⟨o, e, cy, du⟩ HX.out.1
        cases e9
        have c0 := hcs 0 (by decide)
        have c1 := hcs 1 (by decide)
        have c2 := hcs 2 (by decide)
        have c3 := hcs 3 (by decide)
        have c4 := hcs 4 (by decide)
        have c5 := hcs 5 (by decide)
        simp only [Brt.enc, List.getElem?_cons_zero, List.getElem?_cons_succ, Nat.add_zero] at c0 c1 c2 c3 c4 c5
        clear hcs
        have hkl := HO2.out.len
        have hge := HG.out.2.1
        have hgn := HG.out.2.2.1
        go_upto_region 14 with fail
        go_cut [54] (fun s wx => (s = .bool false ∧ ∃ F', OnceS w kb F' (n + 1) T k2 u5 u6 wx) ∨ (s = .bool true ∧ k2.code o e cy = 0 ∧ ∃ F', OnceT w kb F' (n + 1) T ⟨o, e, cy, du⟩ k2 u5 u6 wx))
        case first =>
          by_cases hc : k2.code o e cy = 0
          · have HA := Lib.hid (court_Accuse A [1, 2, 3, 4, 5, 6, 7, 8, 9, 10] kb F2 n k2 o e cy (wc.drewN 1) (HO2.out.drewN 1).cu.ct (HS.out.below (HO2.out.drewN 1).cu.below).errs m2 m5 m10 HX.out.2.2.1 (by omega) (by omega))
            rw [KS.acc_ok hc] at HA
            simp only [ev_nil] at HA
            have HC := Lib.hid hc; clear hc
            go_region_with (go_at_call 17; refine HA.out.mono ?_; rintro y w1 ⟨rfl, hp⟩; have HO3 := Lib.hid ((HO2.out.drewN 1).took (x := ⟨o, e, cy, du⟩) hp); clear hp)
            all_goals go_wp2_with fail
            all_goals go_meet
            all_goals (case rel => exact .inr ⟨rfl, HC.out, _, HO3.out⟩)
          · have HA := Lib.hid (court_Accuse A [1, 2, 3, 4, 5, 6, 7, 8, 9, 10] kb F2 n k2 o e cy (wc.drewN 1) (HO2.out.drewN 1).cu.ct (HS.out.below (HO2.out.drewN 1).cu.below).errs m2 m5 m10 HX.out.2.2.1 (by omega) (by omega))
            rw [KS.acc_bad rfl hc] at HA
            simp only at HA
            rw [ev_some A hc] at HA
            clear hc
            go_region_with (go_at_call 17; refine HA.out.mono ?_; rintro y w1 ⟨rfl, hp⟩; have HO3 := Lib.hid ((HO2.out.drewN 1).of hp); clear hp)
            all_goals go_wp2_with fail
            all_goals go_meet
            all_goals (case rel => exact .inl ⟨rfl, _, HO3.out⟩)
        case rest =>
          rename World => wb
          rcases hcut with ⟨rfl, F3, hO3⟩ | ⟨rfl, hc, F3, hO3⟩
          · have HO3 := Lib.hid hO3; clear hO3
            go_wp2_with fail
            have hg := HG.out.1
            go_roundg (len0 - (t + 1))
            case measure => omega
            case rel => exact ⟨t + 1, n + 1, F3, T, k2, HO3.out, by omega, by go_num, by omega, by omega, HG.out.2.2.2⟩
          · have HO3 := Lib.hid hO3; have HC := Lib.hid hc; clear hO3 hc
            obtain ⟨ta, tc, rfl⟩ := own_shape HO3.out.tk
            have HT := Lib.hid (RdR.of_row brt_len (by decide) HO3.out.tk)
            have HNE := Lib.hid (fun (y : Brt) (hy : y ∈ T) => KS.fresh (x := y.case) HC.out (by rw [HO3.out.same]; exact List.mem_map_of_mem hy))
            have c0 := (HR0.out.below HO3.out.cu.below).cells t ⟨o, e, cy, du⟩ HX.out.1
            obtain ⟨b8, off8, e8, hbl8, hcs8⟩ := c0
            cases e8
            have c0 := hcs8 0 (by decide)
            have c1 := hcs8 1 (by decide)
            have c2 := hcs8 2 (by decide)
            have c3 := hcs8 3 (by decide)
            have c4 := hcs8 4 (by decide)
            have c5 := hcs8 5 (by decide)
            simp only [Brt.enc, List.getElem?_cons_zero, List.getElem?_cons_succ, Nat.add_zero] at c0 c1 c2 c3 c4 c5
            clear hcs8
            have hGd := evGuard
            go_wp2_with fail
            go_loopg [8] T.length (fun g i wr2 => ∃ (j d : Nat), g + j = T.length ∧ i = .int .i64 j ∧ wr2 = wb.drewN d)
            case atStart => exact ⟨0, 0, rfl, rfl, rfl⟩
            case round =>
              obtain ⟨j, d, hgj, rfl, rfl⟩ := hrel
              have HGJ := Lib.hid hgj; clear hgj
              by_cases hjl : j < T.length
              · obtain ⟨y, hy⟩ : ∃ y, T[j]? = some y := ⟨_, List.getElem?_eq_getElem hjl⟩
                obtain ⟨b7, off7, rfl, hbl7, hcs7⟩ := HT.out.cells j y hy
                have t1 := hcs7 1 (by decide)
                have t2 := hcs7 2 (by decide)
                have t3 := hcs7 3 (by decide)
                simp only [Brt.enc, List.getElem?_cons_zero, List.getElem?_cons_succ, Nat.add_zero] at t1 t2 t3
                have hne : y.e ≠ e := HNE.out y (List.mem_of_getElem? hy)
                have hq := fun w => ev_eql y.e e w
                rw [show decide (y.e = e) = false by simp [hne]] at hq
                unfold evV at hq
                have htc := HT.out.lc
                clear hcs7 hne hy
                generalize T.length = tl at *
                go_wp2_with fail
                go_quiet (fail)
                go_wp2_with fail
                have hgj := HGJ.out
                go_roundg (tl - (j + 1))
                case measure => omega
                case rel => exact ⟨j + 1, d + nq, by omega, by go_num, rfl⟩
              · have htl := HO3.out.tk
                have hge3 := HG.out.2.1
                have hbs := HO3.out.cu.below.size
                have HTK := Lib.hid (fun d (ob : Obj) => (ownsRow_other htl (fun g hg => Below.heap_alloc (wb.drewN d) _ _ (htl.lt g hg).2) : ((wb.drewN d).alloc ob).ownsRow w.heap.size 30 6 (.slice ta T.length tc) T.length (T.flatMap Brt.enc)))
                clear htl
                go_wp2_with (at_builtin; refine wpList_append_own_at _ rfl (.tmp 72) (.tmp 77) 22 rfl w.heap.size 30 j0 y0 6 48 Tryd.underlying22 hj hy0 hy1 hy2 hy3 (by decide) (.slice ta T.length tc) T.length (T.flatMap Brt.enc) rfl (HTK.out _ _) ⟨_, 0, none⟩ 1 1 (Brt.enc ⟨o, e, cy, du⟩) rfl rfl (World.news_of_block (heap_alloc_new _ _)) (brt_one _) (by unfold maxLen; omega) (by omega) (by simp; omega) ?_)
                intro v2 w2 hr hg _ hb
                have HO4 := Lib.hid ((HO3.out.next (w' := (wb.drewN d).alloc _) (((Below.refl _ _).drewN d).alloc (Nat.le_refl _) _)).kept (x := ⟨o, e, cy, du⟩) hr hg (by simpa using hb))
                clear hr hg hb
                go_wp2_with fail
                have hg0 := HG.out.1
                have hgt := HG.out.2.1
                go_roundg (len0 - (t + 1))
                case measure => omega
                case rel => exact ⟨t + 1, n + 1, F3, T ++ [⟨o, e, cy, du⟩], _, HO4.out, by omega, by go_num, by simp; omega, by omega, fun x hx => by
                  rcases List.mem_append.1 hx with hx | hx
                  · exact HG.out.2.2.2 x hx
                  · obtain rfl := List.mem_singleton.1 hx; exact HX.out.2⟩
    · have hg0 := HG.out.1
      have hkl := HO.out.len
      have hdl := HO.out.done
      have hge := HG.out.2.1
      have hdu : k.due.length ≤ 100 := by unfold KS.due; rw [List.length_drop]; omega
      have hsum : k.done + k.due.length = T.length := by unfold KS.due; rw [List.length_drop]; omega
      go_wp2_with fail
      refine (court_Due kb F n k _ HO.out.cu.ct (by omega)).mono ?_
      rintro y w1 ⟨v', rfl, ho, hK, hc⟩
      have HV := Lib.hid ho
      have HU1 := Lib.hid (ownsRow_other HO.out.du (fun g hg => hK.block g (HO.out.du.lt g hg).2 (HO.out.d2 g hg)))
      have hbs : w.heap.size ≤ w1.heap.size := Nat.le_trans HO.out.cu.below.size hK.size
      have HK := Lib.hid (And.intro hK hc); clear ho hK hc
      go_wp2_with (at_builtin; refine wpList_append_row _ rfl (.tmp 79) (.tmp 81) 26 rfl w.heap.size 36 i0 z0 4 32 Tryd.underlying26 hi hz0 hz1 hz2 hz3 (by decide) u6 k.done (casesE (k.L.take k.done)) rfl HU1.out wr.heap.size v' k.due.length (casesE k.due) rfl HV.out (caseE_one _) (by unfold maxLen; omega) (by omega) hbs ?_)
      intro v2 w2 hr hg hb
      have hO2 := HO.out.asked HK.out.1 HK.out.2 (by rw [hsum]; exact hr) hg hb
      have hdone : k.asked.done = T.length := by show k.L.length = _; exact hkl
      have hrow := hO2.du
      rw [hdone] at hrow
      obtain ⟨ua, uc, rfl⟩ := own_shape hrow
      obtain ⟨ta, tc, rfl⟩ := own_shape hO2.tk
      have HO2 := Lib.hid hO2
      have HW := Lib.hid hrow
      have HSM := Lib.hid hkl
      clear hg0 hr hg hb hO2 hrow HV HU1 HK hsum hdl hdu hdone hkl
      have e1 : ((T.length : Int) != (T.length : Int)) = false := bne_self_eq_false _
      go_wp2_with fail
      refine (court_Due kb F n k.asked _ HO2.out.cu.ct (by have := HSM.out; have := HG.out.1; have := HG.out.2.1; show k.L.length ≤ 1000000; omega)).mono ?_
      rintro y w3 ⟨v3, rfl, ho, hK, hc⟩
      have hz : k.asked.due.length = 0 := by unfold KS.asked KS.due; simp
      rw [hz] at ho
      obtain ⟨za, zc, rfl⟩ := own_shape ho
      have hT3 : w3.ownsRow w.heap.size 30 6 (.slice ta T.length tc) T.length (T.flatMap Brt.enc) := ownsRow_other HO2.out.tk (fun g hg => hK.block g (HO2.out.tk.lt g hg).2 (HO2.out.d1 g hg))
      have hU3 : w3.ownsRow w.heap.size 36 4 (.slice ua T.length uc) T.length (casesE (k.asked.L.take T.length)) := ownsRow_other HW.out (fun g hg => hK.block g (HW.out.lt g hg).2 (HO2.out.d2 g hg))
      have hB3 : Below w.heap.size w w3 := Keep.after HO2.out.cu.below hK HO2.out.cu.new
      have hcs : k.asked.L.take T.length = T.map Brt.case := by
        have := HO2.out.same
        rw [this, List.take_of_length_le (by simp)]
      rw [hcs] at hU3
      have hTl : T.length ≤ 100 := by have := HG.out.1; have := HG.out.2.1; omega
      have HT := Lib.hid (RdR.of_row brt_len (by decide) hT3)
      have HU := Lib.hid (RdR.of_row case_len (by decide) hU3)
      have HB := Lib.hid hB3
      clear ho hK hc hz hT3 hU3 hB3 hcs HO HO2 HW HSM
      have hGd := evGuard
      go_wp2_with fail
      go_loopg [9] T.length (fun g i wr2 => ∃ (j d : Nat), g + j = T.length ∧ i = .int .i64 j ∧ wr2 = w3.drewN d)
      case atStart => exact ⟨0, 0, rfl, rfl, rfl⟩
      case round =>
        obtain ⟨j, d, hgj, rfl, rfl⟩ := hrel
        have HGJ := Lib.hid hgj; clear hgj
        by_cases hjl : j < T.length
        · obtain ⟨y, hy⟩ : ∃ y, T[j]? = some y := ⟨_, List.getElem?_eq_getElem hjl⟩
          obtain ⟨b7, off7, rfl, hbl7, hcs7⟩ := HT.out.cells j y hy
          obtain ⟨b6, off6, rfl, hbl6, hcs6⟩ := HU.out.cells j y.case (by rw [List.getElem?_map, hy]; rfl)
          have t0 := hcs7 0 (by decide)
          have t1 := hcs7 1 (by decide)
          have t2 := hcs7 2 (by decide)
          have t3 := hcs7 3 (by decide)
          have r0 := hcs6 0 (by decide)
          have r1 := hcs6 1 (by decide)
          have r2 := hcs6 2 (by decide)
          have r3 := hcs6 3 (by decide)
          simp only [Brt.enc, caseE, Brt.case, List.getElem?_cons_zero, List.getElem?_cons_succ, Nat.add_zero] at t0 t1 t2 t3 r0 r1 r2 r3
          have hq := fun w => ev_neq y.e y.e w
          rw [show (!decide (y.e = y.e)) = false by simp] at hq
          unfold evV at hq
          have e2 : (y.owner != y.owner) = false := bne_self_eq_false _
          have htc := HT.out.lc
          have huc := HU.out.lc
          clear hcs7 hcs6 hy
          generalize T.length = tl at *
          go_wp2_with fail
          go_quiet (fail)
          go_wp2_with fail
          have hgj := HGJ.out
          go_roundg (tl - (j + 1))
          case measure => omega
          case rel => exact ⟨j + 1, d + nq, by omega, by go_num, rfl⟩
        · go_wp2_with fail
          go_ret
          exact ⟨rfl, HB.out.drewN _⟩

theorem once_all (A : Nat → Addr) (a0 : Option Addr) (len0 cap0 : Nat) (l0 : List Brt) (w : World) (hS : Sents A w) (R0 : RdR Brt.enc 6 w a0 len0 cap0 l0) (hwf : ∀ x ∈ l0, x.wf) :
    Calls Tryd.prog 3 #[.slice a0 len0 cap0] w fun e w' => e = .returned (.bool true) ∧ Below w.heap.size w w' := by
  by_cases hl : len0 ≤ 100
  · exact once_walk A a0 len0 cap0 l0 w hS R0 hwf hl
  · have HS := Lib.hid hS; clear hS hwf
    have hm := Nat.le_trans R0.lc R0.cm
    have d1 : decide ((100 : Int) < (len0 : Int)) = true := by simp; omega
    clear R0
    go_enter Tryd.func3, Tryd.ntmps3
    go_wp2_with fail
    refine (law_judged A _ HS.out).mono ?_
    rintro e w0 ⟨rfl, hb0⟩
    go_wp2_with fail
    go_ret
    exact ⟨rfl, hb0⟩
end Go.Proofs.YtajnfkmkombajabDoor
