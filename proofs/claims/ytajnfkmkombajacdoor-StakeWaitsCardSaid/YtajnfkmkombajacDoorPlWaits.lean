/- Plain: one who stakes and takes out, waits, is slashed, and is freed. No program in sight. -/
import Derived.Test.YtajnfkmkombajacDoorPlTot
set_option linter.unusedVariables false
set_option linter.unusedSimpArgs false
namespace Go.Proofs.YtajnfkmkombajacDoor
open Go.RowKit

theorem leave_in_of {s : SS} {o k n c : Int} {q v : QS} (h : s.pool k = some q) (hc : cycleC c = 0) (ht : (q.takeOp o n).1 = 0) (hv : (s.find k c).getD QS.new = v) (hj : (v.joinOp o n).1 = 0) : s.leaveOp o k n c = (0, (s.setP k (q.takeOp o n).2).setW k c (v.joinOp o n).2) := by
  unfold SS.leaveOp; rw [h]; simp only; rw [if_neg (by simp [hc]), if_neg (by simp [ht]), hv, if_neg (by simp [hj])]
theorem slash_in_of {s : SS} {k f p : Int} {q : QS} (h : s.pool k = some q) (hc : (q.slashOp p).2.1 = 0) : s.slashOp k f p = ((q.slashOp p).1 + (s.W.map (·.loses k f p)).sum, 0, ⟨s.P.set k.toNat (some (q.slashOp p).2.2), s.W.map (·.slash k f p)⟩) := by
  unfold SS.slashOp; rw [h]; simp only; rw [if_neg (by simp [hc])]
/-- owner 2 alone has k shares of a pool that holds t -/
def qq (t k : Int) : QS := ⟨t, k, [0, 0, k, 0, 0, 0]⟩
theorem qq_at (t k : Int) : (qq t k).at 2 = k := rfl
theorem qq_value {t k : Int} (h0 : 0 ≤ t) (h1 : t ≤ 1125899906842624) (k0 : 0 ≤ k) (k1 : k ≤ 1125899906842624) : (qq t k).value 2 = if k = 0 then 0 else t := by
  unfold QS.value
  show (if k = 0 then 0 else overN k t k) = _
  by_cases hk : k = 0
  · rw [if_pos hk, if_pos hk]
  · rw [if_neg hk, if_neg hk]
    have e : k * t / k = t := Int.mul_ediv_cancel_left t hk
    exact (over_yes (show overOk k t k from ⟨⟨k0, k1⟩, ⟨h0, h1⟩, by omega, by rw [e]; omega⟩)).2.1.trans e
theorem qq_join {n : Int} (h0 : 1 ≤ n) (h1 : n ≤ 1125899906842624) : QS.new.joinOp 2 n = (0, qq n n) := by
  have hl : plookC 2 n = 0 := plookC_zero.2 ⟨by decide, h0, h1⟩
  unfold QS.joinOp
  rw [if_neg (by simp [hl]), if_neg (by simp [QS.new])]
  have hc : QS.new.joinC n = 0 := by unfold QS.joinC; rw [if_neg (by simp [QS.new])]
  have hs : QS.new.joinS n = n := by unfold QS.joinS; rw [if_neg (by simp [QS.new])]
  rw [if_neg (by simp [hc]), hs, if_neg (by simp [QS.new]; omega), if_neg (by omega)]
  unfold QS.change QS.new qq
  simp [QS.at, ownB]
theorem qq_take {n t : Int} (h0 : 1 ≤ t) (h1 : t ≤ n) (h2 : n ≤ 1125899906842624) : (qq n n).takeOp 2 t = (0, qq (n - t) (n - t)) := by
  have hl : plookC 2 t = 0 := plookC_zero.2 ⟨by decide, h0, by omega⟩
  have hv : (qq n n).value 2 = n := by rw [qq_value (by omega) h2 (by omega) h2, if_neg (by omega)]
  have e : t * n / n = t := Int.mul_ediv_cancel t (by omega)
  have em : t * n % n = 0 := Int.mul_emod_left t n
  have hu : upN t n n = t := by
    rw [(up_yes (show upOk t n n from ⟨⟨⟨by omega, by omega⟩, ⟨by omega, h2⟩, by omega, by rw [e]; omega⟩, by rw [e, if_pos em]; omega⟩)).2, e, if_pos em]; omega
  unfold QS.takeOp
  rw [if_neg (by simp [hl]), hv, if_neg (by omega)]
  show (if upN t n n = n ∧ t < n then _ else _) = _
  rw [hu, if_neg (by omega)]
  unfold QS.change qq
  simp only [hu]
  simp [QS.at, ownB, Int.sub_eq_add_neg]
theorem qq_slash {t k p : Int} (h0 : 0 ≤ p) (h1 : p ≤ 100) : (qq t k).slashOp p = (t * p / 100, 0, qq (t - t * p / 100) k) := by
  unfold QS.slashOp; rw [if_neg (by omega)]; rfl
theorem qq_leave {t k : Int} (h0 : 0 ≤ t) (h1 : t ≤ 1125899906842624) (k0 : 1 ≤ k) (k1 : k ≤ 1125899906842624) : (qq t k).leaveOp 2 = (t, 0, qq 0 0) := by
  have hv : (qq t k).value 2 = t := by rw [qq_value h0 h1 (by omega) k1, if_neg (by omega)]
  unfold QS.leaveOp
  rw [if_neg (by decide), if_neg (by rw [qq_at]; omega), hv, qq_at]
  unfold QS.change qq
  simp [QS.at, ownB, ← Int.sub_eq_add_neg]

/-- the stakes of the law: baker 0's pool, and what waits since cycle c -/
def ww (P W : QS) (c : Int) : SS := ⟨[some P, none, none], [⟨0, c, W⟩]⟩
theorem ww_reg : SS.new.regOp 0 = (0, ⟨[some QS.new, none, none], []⟩) := rfl
theorem ww_join {n : Int} (h0 : 1 ≤ n) (h1 : n ≤ 1125899906842624) : (SS.mk [some QS.new, none, none] []).joinOp 2 0 n = (0, ⟨[some (qq n n), none, none], []⟩) := by
  unfold SS.joinOp SS.setP
  show ((QS.new.joinOp 2 n).1, _) = _
  rw [qq_join h0 h1]; rfl
theorem ww_leave {n t c : Int} (h0 : 1 ≤ t) (h1 : t ≤ n) (h2 : n ≤ 1125899906842624) (c0 : 0 ≤ c) (c1 : c ≤ 1000) : (SS.mk [some (qq n n), none, none] []).leaveOp 2 0 t c = (0, ww (qq (n - t) (n - t)) (qq t t) c) := by
  have hcy : cycleC c = 0 := cycleC_zero.2 ⟨c0, by omega⟩
  rw [leave_in_of (q := qq n n) (v := QS.new) rfl hcy (by rw [qq_take h0 h1 h2]) rfl (by rw [qq_join h0 (by omega)])]
  rw [qq_take h0 h1 h2, qq_join h0 (by omega)]
  rfl
theorem ww_find (P W : QS) (c : Int) : (ww P W c).find 0 c = some W := by unfold ww SS.find; simp [WP.at]
theorem ww_free_no {P W : QS} {c d : Int} (c0 : 0 ≤ c) (h : c ≤ d) (h2 : d ≤ c + 2) (c1 : c ≤ 1000) : (ww P W c).freeOp 2 d = (0, 4, ww P W c) := by
  have hf : (WP.mk 0 c W).free d = false := by unfold WP.free; simp; omega
  obtain ⟨e1, e2, e3⟩ := WP.stuck (o := 2) hf
  rw [SS.freeOp_of (cycleC_zero.2 ⟨by omega, by omega⟩) (by decide)]
  unfold ww
  simp [e1, e3]
theorem ww_free_yes {P : QS} {c t k : Int} (c0 : 0 ≤ c) (c1 : c ≤ 1000) (h0 : 0 ≤ t) (h1 : t ≤ 1125899906842624) (k0 : 1 ≤ k) (k1 : k ≤ 1125899906842624) : (ww P (qq t k) c).freeOp 2 (c + 3) = (t, 0, ww P (qq 0 0) c) := by
  have hf : (WP.mk 0 c (qq t k)).free (c + 3) = true := by unfold WP.free; exact decide_eq_true (by simp only; omega)
  rw [SS.freeOp_of (cycleC_zero.2 ⟨by omega, by omega⟩) (by decide)]
  unfold ww
  simp only [List.any_cons, List.any_nil, List.map_cons, List.map_nil, List.sum_cons, List.sum_nil]
  have hh : (WP.mk 0 c (qq t k)).has 2 (c + 3) = true := by unfold WP.has; rw [hf, qq_leave h0 h1 k0 k1]; rfl
  have hg : (WP.mk 0 c (qq t k)).gets 2 (c + 3) = t := by unfold WP.gets; rw [hf, qq_leave h0 h1 k0 k1]; rfl
  have hl : (WP.mk 0 c (qq t k)).left 2 (c + 3) = ⟨0, c, qq 0 0⟩ := by unfold WP.left; rw [hf, qq_leave h0 h1 k0 k1]; rfl
  rw [hh, hg, hl]; simp
theorem ww_slash {a b ka kb c f p : Int} (h0 : 0 ≤ p) (h1 : p ≤ 100) : (ww (qq a ka) (qq b kb) c).slashOp 0 f p = (a * p / 100 + (if f ≤ c then b * p / 100 else 0), 0, ww (qq (a - a * p / 100) ka) (if f ≤ c then qq (b - b * p / 100) kb else qq b kb) c) := by
  rw [slash_in_of (q := qq a ka) rfl (by rw [qq_slash h0 h1])]
  rw [qq_slash h0 h1]
  unfold ww
  simp only [List.map_cons, List.map_nil, List.sum_cons, List.sum_nil]
  by_cases hfc : f ≤ c
  · have hm : (WP.mk 0 c (qq b kb)).hit 0 f = true := by unfold WP.hit; simp; omega
    have e1 : (WP.mk 0 c (qq b kb)).loses 0 f p = b * p / 100 := by unfold WP.loses; rw [hm, qq_slash h0 h1]; rfl
    have e2 : (WP.mk 0 c (qq b kb)).slash 0 f p = ⟨0, c, qq (b - b * p / 100) kb⟩ := by unfold WP.slash; rw [hm, qq_slash h0 h1]; rfl
    rw [e1, e2, if_pos hfc, if_pos hfc]; simp
  · have hm : (WP.mk 0 c (qq b kb)).hit 0 f = false := by unfold WP.hit; simp; omega
    have e1 : (WP.mk 0 c (qq b kb)).loses 0 f p = 0 := by unfold WP.loses; rw [hm]; rfl
    have e2 : (WP.mk 0 c (qq b kb)).slash 0 f p = ⟨0, c, qq b kb⟩ := by unfold WP.slash; rw [hm]; rfl
    rw [e1, e2, if_neg hfc, if_neg hfc]; simp
end Go.Proofs.YtajnfkmkombajacDoor
