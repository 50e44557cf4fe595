/-
  Plain: draws by weight (the columns of Walker and Vose): how they are made, and that each number has just its weight times how many columns. No program in sight.
  Contracts of what package draw calls of package slices: IndexFunc (at draw.New's test), Grow (of nil), Concat (of two).
-/
import Derived.WalkKit
import Derived.Test.YtajnfkmkombajabGreatDoorProg
import Derived.Test.YtajnfkmkombajabGreatDoorQSR16
import Derived.Lib.AppendZeros
import Derived.Deep.QuietTactic
import Derived.BigQuiet
import Derived.Outline
import Derived.KernelRfl
set_option linter.unusedVariables false
set_option linter.unusedSimpArgs false
set_option linter.unusedVariables false
namespace Go.Proofs.YtajnfkmkombajabGreatDoor
open Go.RowKit

/-- while columns are filled: numbers with too little, with enough; what each has left; the columns -/
structure VS where
  small : List Nat
  great : List Nat
  rest : List Int
  cols : List (Int × Int)

def VS.step (H : Int) (v : VS) : VS :=
  match v.small, v.great with
  | s :: sm, g :: gr =>
    let rg := v.rest.getD g 0 - (H - v.rest.getD s 0)
    if rg < H then ⟨sm ++ [g], gr, v.rest.set g rg, v.cols.set s (v.rest.getD s 0, (g : Int))⟩ else ⟨sm, g :: gr, v.rest.set g rg, v.cols.set s (v.rest.getD s 0, (g : Int))⟩
  | _, _ => v

def VS.run (H : Int) (v : VS) : Nat → VS
  | 0 => v
  | k + 1 => (v.run H k).step H

def restW (w : List Int) : List Int := w.map (· * (w.length : Int))
def smallTo (w : List Int) (k : Nat) : List Nat := (List.range k).filter fun i => decide ((restW w).getD i 0 < w.sum)
def greatTo (w : List Int) (k : Nat) : List Nat := (List.range k).filter fun i => !decide ((restW w).getD i 0 < w.sum)
def VS.start (w : List Int) : VS := ⟨smallTo w w.length, greatTo w w.length, restW w, List.replicate w.length (0, 0)⟩
/-- the numbers that are left get columns of their own -/
def ownCols (H : Int) (cols : List (Int × Int)) (l : List Nat) : List (Int × Int) := l.foldl (fun c k => c.set k (H, (k : Int))) cols
def VS.final (H : Int) (v : VS) : List (Int × Int) := ownCols H v.cols (v.small ++ v.great)
def voseV (w : List Int) : VS := (VS.start w).run w.sum w.length
def vose (w : List Int) : List (Int × Int) := (voseV w).final w.sum

/-- column s gives number k so much -/
def contrib (H : Int) (c : Int × Int) (s k : Nat) : Int := (if s = k then c.1 else 0) + (if c.2 = (k : Int) then H - c.1 else 0)
def cnt (H : Int) (n : Nat) (cols : List (Int × Int)) (pend : List Nat) (k : Nat) : Int := ((List.range n).map fun s => if s ∈ pend then 0 else contrib H (cols.getD s (0, 0)) s k).sum

theorem sum_map_update (f g : Nat → Int) (n s : Nat) (hs : s < n) (h : ∀ i, i ≠ s → f i = g i) : ((List.range n).map f).sum = ((List.range n).map g).sum - g s + f s := by
  induction n with
  | zero => omega
  | succ n ih =>
    rw [List.range_succ, List.map_append, List.map_append, List.sum_append, List.sum_append]
    simp only [List.map_cons, List.map_nil, List.sum_cons, List.sum_nil]
    by_cases hn : s = n
    · subst hn
      have : ((List.range s).map f).sum = ((List.range s).map g).sum := by
        congr 1; exact List.map_congr_left fun i hi => h i (by have := List.mem_range.1 hi; omega)
      omega
    · have := ih (by omega); have := h n (by omega); omega

theorem sum_map_congr (f g : Nat → Int) (n : Nat) (h : ∀ i, i < n → f i = g i) : ((List.range n).map f).sum = ((List.range n).map g).sum := by
  congr 1; exact List.map_congr_left fun i hi => h i (List.mem_range.1 hi)

/-- what holds while columns are filled -/
structure VS.Inv (w : List Int) (v : VS) : Prop where
  nodup : (v.small ++ v.great).Nodup
  lt : ∀ k ∈ v.small ++ v.great, k < w.length
  rl : v.rest.length = w.length
  cl : v.cols.length = w.length
  sm : ∀ s ∈ v.small, 0 ≤ v.rest.getD s 0 ∧ v.rest.getD s 0 < w.sum
  gr : ∀ g ∈ v.great, w.sum ≤ v.rest.getD g 0
  total : ((v.small ++ v.great).map fun k => v.rest.getD k 0).sum = w.sum * ((v.small ++ v.great).length : Int)
  done : ∀ k, k < w.length → k ∉ v.small ++ v.great → 0 ≤ (v.cols.getD k (0, 0)).1 ∧ (v.cols.getD k (0, 0)).1 ≤ w.sum ∧ 0 ≤ (v.cols.getD k (0, 0)).2 ∧ (v.cols.getD k (0, 0)).2 < (w.length : Int)
  count : ∀ k, k < w.length → cnt w.sum w.length v.cols (v.small ++ v.great) k + (if k ∈ v.small ++ v.great then v.rest.getD k 0 else 0) = w.getD k 0 * (w.length : Int)
  few : v.small.length + v.great.length ≤ w.length

theorem restW_getD (w : List Int) (k : Nat) : (restW w).getD k 0 = w.getD k 0 * (w.length : Int) := by
  simp only [restW, List.getD_eq_getElem?_getD, List.getElem?_map]
  cases w[k]? <;> simp

theorem filter_perm_sum (f : Nat → Int) (p : Nat → Bool) : ∀ l : List Nat, ((l.filter p ++ l.filter fun i => !p i).map f).sum = (l.map f).sum
  | [] => rfl
  | a :: l => by
    have ih := filter_perm_sum f p l
    rw [List.map_append, List.sum_append] at ih ⊢
    cases hp : p a <;> simp [hp] <;> omega
theorem filter_len (p : Nat → Bool) : ∀ l : List Nat, (l.filter p).length + (l.filter fun i => !p i).length = l.length
  | [] => rfl
  | a :: l => by have ih := filter_len p l; cases hp : p a <;> simp [hp] <;> omega

theorem range_sum_getD : ∀ w : List Int, ((List.range w.length).map fun k => w.getD k 0).sum = w.sum := by
  intro w
  induction w with
  | nil => rfl
  | cons a w ih =>
    rw [List.length_cons, List.range_succ_eq_map, List.map_cons, List.map_map, List.sum_cons, List.sum_cons]
    have : ((fun k => (a :: w).getD k 0) ∘ Nat.succ) = fun k => w.getD k 0 := by funext k; simp
    rw [this, ih]; simp

theorem sum_mul_right (c : Int) : ∀ l : List Int, (l.map (· * c)).sum = l.sum * c
  | [] => by simp
  | a :: l => by simp only [List.map_cons, List.sum_cons, sum_mul_right c l, Int.add_mul]

theorem mem_start (w : List Int) (k : Nat) : k ∈ (VS.start w).small ++ (VS.start w).great ↔ k < w.length := by
  simp only [VS.start, smallTo, greatTo, List.mem_append, List.mem_filter, List.mem_range]
  constructor
  · rintro (h | h) <;> exact h.1
  · intro h
    by_cases hd : (restW w).getD k 0 < w.sum
    · exact .inl ⟨h, by simpa using hd⟩
    · exact .inr ⟨h, by simpa using hd⟩

theorem nodup_filters (p : Nat → Bool) {l : List Nat} (h : l.Nodup) : (l.filter p ++ l.filter fun i => !p i).Nodup := by
  rw [List.nodup_append]
  refine ⟨h.filter _, h.filter _, fun a ha b hb => ?_⟩
  rintro rfl
  simp only [List.mem_filter] at ha hb
  simp [ha.2] at hb

theorem VS.start_inv (w : List Int) (hpos : ∀ x ∈ w, 0 ≤ x) : (VS.start w).Inv w := by
  refine ⟨nodup_filters _ List.nodup_range, fun k hk => (mem_start w k).1 hk, by simp [VS.start, restW], by simp [VS.start], ?_, ?_, ?_, ?_, ?_, ?_⟩
  · intro s hs
    simp only [VS.start, smallTo, List.mem_filter, List.mem_range, decide_eq_true_eq] at hs
    refine ⟨?_, hs.2⟩
    show 0 ≤ (restW w).getD s 0
    rw [restW_getD]
    refine Int.mul_nonneg ?_ (by omega)
    rw [List.getD_eq_getElem?_getD, List.getElem?_eq_getElem hs.1]
    exact hpos _ (List.getElem_mem _)
  · intro g hg
    simp only [VS.start, greatTo, List.mem_filter, List.mem_range, Bool.not_eq_true', decide_eq_false_iff_not, Int.not_lt] at hg
    exact hg.2
  · show ((smallTo w w.length ++ greatTo w w.length).map fun k => (restW w).getD k 0).sum = _
    have hl : ((VS.start w).small ++ (VS.start w).great).length = w.length := by
      show (smallTo w w.length ++ greatTo w w.length).length = _
      unfold smallTo greatTo
      rw [List.length_append, filter_len, List.length_range]
    rw [hl]
    unfold smallTo greatTo
    rw [filter_perm_sum]
    have : (fun k => (restW w).getD k 0) = fun k => w.getD k 0 * (w.length : Int) := by funext k; exact restW_getD w k
    rw [this]
    have h2 : (List.range w.length).map (fun k => w.getD k 0 * (w.length : Int)) = ((List.range w.length).map fun k => w.getD k 0).map (· * (w.length : Int)) := by rw [List.map_map]; rfl
    rw [h2, sum_mul_right, range_sum_getD]
  · intro k hk hn; exact absurd ((mem_start w k).2 hk) hn
  · intro k hk
    rw [if_pos ((mem_start w k).2 hk)]
    have : cnt w.sum w.length (VS.start w).cols ((VS.start w).small ++ (VS.start w).great) k = 0 := by
      unfold cnt
      have : ∀ i, i < w.length → (if i ∈ (VS.start w).small ++ (VS.start w).great then (0 : Int) else contrib w.sum ((VS.start w).cols.getD i (0, 0)) i k) = (fun _ => (0 : Int)) i := fun i hi => if_pos ((mem_start w i).2 hi)
      rw [sum_map_congr _ (fun _ => (0 : Int)) _ this]
      clear this
      induction w.length with
      | zero => rfl
      | succ n ih => rw [List.range_succ, List.map_append, List.sum_append, ih]; rfl
    rw [this, Int.zero_add]; exact restW_getD w k
  · show (smallTo w w.length).length + (greatTo w w.length).length ≤ w.length
    unfold smallTo greatTo
    rw [filter_len, List.length_range]; exact Nat.le_refl _

theorem getD_set_same {α : Type} (l : List α) (i : Nat) (v d : α) (h : i < l.length) : (l.set i v).getD i d = v := by
  simp [List.getD_eq_getElem?_getD, h]
theorem getD_set_other {α : Type} (l : List α) (i j : Nat) (v d : α) (h : i ≠ j) : (l.set i v).getD j d = l.getD j d := by
  simp [List.getD_eq_getElem?_getD, h]

/-- one column is filled -/
theorem VS.Inv.step {w : List Int} {v : VS} (I : v.Inv w) : (v.step w.sum).Inv w := by
  obtain ⟨small, great, rest, cols⟩ := v
  cases small with
  | nil => exact I
  | cons s sm =>
    cases great with
    | nil => exact I
    | cons g gr =>
      have hnd := I.nodup
      have hlt := I.lt
      have hrl := I.rl
      have hcl := I.cl
      have hsm := I.sm
      have hgr := I.gr
      have htot := I.total
      have hdone := I.done
      have hcount := I.count
      have hfew := I.few
      simp only at hnd hlt hrl hcl hsm hgr htot hdone hcount hfew
      have hsg : s ≠ g := by
        rintro rfl
        rw [List.nodup_append] at hnd
        exact hnd.2.2 s (by simp) s (by simp) rfl
      have hs_lt := hlt s (by simp)
      have hg_lt := hlt g (by simp)
      obtain ⟨hs0, hs1⟩ := hsm s (by simp)
      have hg0 := hgr g (by simp)
      have hs_sm : s ∉ sm := by rw [List.cons_append, List.nodup_cons] at hnd; exact fun h => hnd.1 (by simp [h])
      have hs_gr : s ∉ gr := by rw [List.cons_append, List.nodup_cons] at hnd; exact fun h => hnd.1 (by simp [h])
      have hnd2 : (sm ++ g :: gr).Nodup := by rw [List.cons_append, List.nodup_cons] at hnd; exact hnd.2
      have hg_sm : g ∉ sm := fun h => by rw [List.nodup_append] at hnd2; exact hnd2.2.2 g h g (by simp) rfl
      have hg_gr : g ∉ gr := fun h => by rw [List.nodup_append] at hnd2; have := hnd2.2.1; rw [List.nodup_cons] at this; exact this.1 h
      obtain ⟨rs, hrs⟩ : ∃ rs, rs = rest.getD s 0 := ⟨_, rfl⟩
      obtain ⟨rg, hrg⟩ : ∃ rg, rg = rest.getD g 0 - (w.sum - rs) := ⟨_, rfl⟩
      rw [← hrs] at hs0 hs1
      have keyRest : ∀ k, k ≠ g → (rest.set g rg).getD k 0 = rest.getD k 0 := fun k hk => getD_set_other _ _ _ _ _ (Ne.symm hk)
      have keyRestG : (rest.set g rg).getD g 0 = rg := getD_set_same _ _ _ _ (by rw [hrl]; exact hg_lt)
      have keyCol : ∀ k, k ≠ s → (cols.set s (rs, (g : Int))).getD k (0, 0) = cols.getD k (0, 0) := fun k hk => getD_set_other _ _ _ _ _ (Ne.symm hk)
      have keyColS : (cols.set s (rs, (g : Int))).getD s (0, 0) = (rs, (g : Int)) := getD_set_same _ _ _ _ (by rw [hcl]; exact hs_lt)
      -- for any order of what is still to come
      have main : ∀ (sm' gr' : List Nat), (∀ k, k ∈ sm' ++ gr' ↔ k ∈ sm ++ g :: gr) → (sm' ++ gr').Nodup → (sm' ++ gr').length = (sm ++ g :: gr).length → (∀ f : Nat → Int, ((sm' ++ gr').map f).sum = ((sm ++ g :: gr).map f).sum) →
          (∀ x ∈ sm', 0 ≤ (rest.set g rg).getD x 0 ∧ (rest.set g rg).getD x 0 < w.sum) → (∀ x ∈ gr', w.sum ≤ (rest.set g rg).getD x 0) → (VS.mk sm' gr' (rest.set g rg) (cols.set s (rs, (g : Int)))).Inv w := by
        intro sm' gr' hmem hn' hl' hsum' hs' hg'
        refine ⟨hn', fun k hk => hlt k (List.mem_cons_of_mem _ ((hmem k).1 hk)), by simpa using hrl, by simpa using hcl, hs', hg', ?_, ?_, ?_, ?_⟩
        · show ((sm' ++ gr').map fun k => (rest.set g rg).getD k 0).sum = w.sum * ((sm' ++ gr').length : Int)
          rw [hsum', hl']
          have e1 : (sm.map fun k => (rest.set g rg).getD k 0) = sm.map fun k => rest.getD k 0 := List.map_congr_left fun k hk => keyRest k (fun e => hg_sm (e ▸ hk))
          have e2 : (gr.map fun k => (rest.set g rg).getD k 0) = gr.map fun k => rest.getD k 0 := List.map_congr_left fun k hk => keyRest k (fun e => hg_gr (e ▸ hk))
          simp only [List.map_append, List.map_cons, List.sum_append, List.sum_cons, List.cons_append, List.length_append, List.length_cons] at htot ⊢
          rw [e1, e2, keyRestG, hrg]
          rw [← hrs] at htot
          have : w.sum * ((sm.length + (gr.length + 1) + 1 : Nat) : Int) = w.sum * ((sm.length + (gr.length + 1) : Nat) : Int) + w.sum := by
            rw [show ((sm.length + (gr.length + 1) + 1 : Nat) : Int) = ((sm.length + (gr.length + 1) : Nat) : Int) + 1 from by omega, Int.mul_add, Int.mul_one]
          omega
        · intro k hk hkn
          simp only at hkn ⊢
          by_cases hks : k = s
          · subst hks
            rw [keyColS]; exact ⟨hs0, by omega, by omega, by omega⟩
          · rw [keyCol k hks]
            exact hdone k hk (fun hm => hkn ((hmem k).2 ((List.mem_cons.1 hm).resolve_left hks)))
        · intro k hk
          simp only
          have hs_n : s ∉ sm' ++ gr' := fun h => by rw [List.cons_append, List.nodup_cons] at hnd; exact hnd.1 ((hmem s).1 h)
          have hc := hcount k hk
          have e3 : cnt w.sum w.length (cols.set s (rs, (g : Int))) (sm' ++ gr') k = cnt w.sum w.length cols (s :: sm ++ g :: gr) k + contrib w.sum (rs, (g : Int)) s k := by
            unfold cnt
            rw [sum_map_update _ (fun i => if i ∈ s :: sm ++ g :: gr then 0 else contrib w.sum (cols.getD i (0, 0)) i k) w.length s hs_lt (fun i hi => ?_)]
            · simp only [List.cons_append, List.mem_cons, true_or, if_true]
              rw [if_neg hs_n, keyColS]; omega
            · rw [keyCol i hi]
              have : (i ∈ sm' ++ gr') ↔ (i ∈ s :: sm ++ g :: gr) := (hmem i).trans ⟨fun h => List.mem_cons_of_mem _ h, fun h => (List.mem_cons.1 h).resolve_left hi⟩
              by_cases hp : i ∈ sm' ++ gr'
              · rw [if_pos hp, if_pos (this.1 hp)]
              · rw [if_neg hp, if_neg (fun h => hp (this.2 h))]
          rw [e3]
          unfold contrib
          simp only
          by_cases hks : s = k
          · subst hks
            rw [if_pos rfl, if_neg (by omega), if_neg hs_n]
            rw [if_pos (by simp)] at hc
            rw [← hrs] at hc; omega
          · rw [if_neg hks]
            by_cases hkg : g = k
            · subst hkg
              rw [if_pos rfl, if_pos ((hmem g).2 (by simp)), keyRestG]
              rw [if_pos (by simp)] at hc
              omega
            · rw [if_neg (by omega), keyRest k (Ne.symm hkg)]
              have : (k ∈ sm' ++ gr') ↔ (k ∈ s :: sm ++ g :: gr) := (hmem k).trans ⟨fun h => List.mem_cons_of_mem _ h, fun h => (List.mem_cons.1 h).resolve_left (Ne.symm hks)⟩
              by_cases hp : k ∈ sm' ++ gr'
              · rw [if_pos hp]; rw [if_pos (this.1 hp)] at hc; omega
              · rw [if_neg hp]; rw [if_neg (fun h => hp (this.2 h))] at hc; omega
        · have := congrArg (· + 1) hl'
          simp only [List.length_append, List.length_cons] at this hfew ⊢
          omega
      show VS.Inv w (VS.step w.sum ⟨s :: sm, g :: gr, rest, cols⟩)
      unfold VS.step
      simp only [← hrs, ← hrg]
      split
      · next hlt' =>
        refine main (sm ++ [g]) gr (fun k => by simp) (by simpa using hnd2) (by simp) (fun f => by simp) ?_ ?_
        · intro x hx
          rcases List.mem_append.1 hx with hx | hx
          · rw [keyRest x (fun e => hg_sm (e ▸ hx))]; exact hsm x (by simp [hx])
          · rw [List.mem_singleton.1 hx, keyRestG]; omega
        · intro x hx
          rw [keyRest x (fun e => hg_gr (e ▸ hx))]; exact hgr x (by simp [hx])
      · next hge =>
        refine main sm (g :: gr) (fun k => Iff.rfl) hnd2 rfl (fun f => rfl) ?_ ?_
        · intro x hx
          rw [keyRest x (fun e => hg_sm (e ▸ hx))]; exact hsm x (by simp [hx])
        · intro x hx
          rcases List.mem_cons.1 hx with hx | hx
          · rw [hx, keyRestG]; omega
          · rw [keyRest x (fun e => hg_gr (e ▸ hx))]; exact hgr x (by simp [hx])

theorem mem_le_sum {f : Nat → Int} : ∀ {l : List Nat}, (∀ x ∈ l, 0 ≤ f x) → ∀ x ∈ l, f x ≤ (l.map f).sum
  | [], _, x, hx => by cases hx
  | a :: l, h, x, hx => by
    have hl : 0 ≤ (l.map f).sum := by
      clear hx
      induction l with
      | nil => simp
      | cons b l ih => have := ih (fun x hx => h x (by simp only [List.mem_cons] at hx ⊢; rcases hx with hx | hx <;> simp [hx])); have := h b (by simp); simp only [List.map_cons, List.sum_cons]; omega
    simp only [List.map_cons, List.sum_cons]
    rcases List.mem_cons.1 hx with hx | hx
    · rw [hx]; omega
    · have := mem_le_sum (fun x hx => h x (by simp [hx])) x hx; have := h a (by simp); omega
/-- what is left of each is no more than all -/
theorem VS.Inv.rest_le {w : List Int} {v : VS} (I : v.Inv w) (hH : 0 ≤ w.sum) {g : Nat} (hg : g ∈ v.great) : v.rest.getD g 0 ≤ w.sum * (w.length : Int) := by
  have h := mem_le_sum (f := fun k => v.rest.getD k 0) (l := v.small ++ v.great) (fun x hx => by
    rcases List.mem_append.1 hx with hx | hx
    · exact (I.sm x hx).1
    · have := I.gr x hx; omega) g (List.mem_append_right _ hg)
  rw [I.total] at h
  have hl : ((v.small ++ v.great).length : Int) ≤ (w.length : Int) := by have := I.few; rw [List.length_append]; omega
  exact Int.le_trans h (Int.mul_le_mul_of_nonneg_left hl hH)

theorem VS.run_inv {w : List Int} {v : VS} (I : v.Inv w) : ∀ k, (v.run w.sum k).Inv w
  | 0 => I
  | k + 1 => (VS.run_inv I k).step

/-- each step takes one from those that are still to come, while there are both kinds -/
theorem VS.step_len {H : Int} {v : VS} (hs : v.small ≠ []) (hg : v.great ≠ []) : (v.step H).small.length + (v.step H).great.length + 1 = v.small.length + v.great.length := by
  obtain ⟨small, great, rest, cols⟩ := v
  cases small with
  | nil => exact absurd rfl hs
  | cons s sm =>
    cases great with
    | nil => exact absurd rfl hg
    | cons g gr => unfold VS.step; simp only; split <;> simp <;> omega
theorem VS.step_stays {H : Int} {v : VS} (h : v.small = [] ∨ v.great = []) : v.step H = v := by
  obtain ⟨small, great, rest, cols⟩ := v
  rcases h with h | h <;> simp only at h <;> subst h
  · rfl
  · cases small <;> rfl
theorem VS.run_stays {H : Int} {v : VS} {k : Nat} (h : (v.run H k).small = [] ∨ (v.run H k).great = []) : ∀ j, v.run H (k + j) = v.run H k
  | 0 => rfl
  | j + 1 => by
    show (v.run H (k + j)).step H = _
    rw [VS.run_stays h j]; exact VS.step_stays h
theorem VS.run_len {H : Int} {v : VS} : ∀ k, (∀ j, j < k → (v.run H j).small ≠ [] ∧ (v.run H j).great ≠ []) → (v.run H k).small.length + (v.run H k).great.length + k = v.small.length + v.great.length
  | 0, _ => rfl
  | k + 1, h => by
    have := VS.run_len k (fun j hj => h j (by omega))
    have h2 := VS.step_len (H := H) (h k (by omega)).1 (h k (by omega)).2
    show ((v.run H k).step H).small.length + ((v.run H k).step H).great.length + (k + 1) = _
    omega
/-- behind so many steps as there were numbers one kind is used up -/
theorem VS.run_end {H : Int} {v : VS} {n : Nat} (h : v.small.length + v.great.length ≤ n) : (v.run H n).small = [] ∨ (v.run H n).great = [] := by
  apply Decidable.byContradiction
  intro hn
  have hall : ∀ j, j < n + 1 → (v.run H j).small ≠ [] ∧ (v.run H j).great ≠ [] := by
    intro j hj
    constructor
    · intro h0
      have := VS.run_stays (v := v) (H := H) (.inl h0) (n - j)
      rw [show j + (n - j) = n by omega] at this
      exact hn (.inl (by rw [this]; exact h0))
    · intro h0
      have := VS.run_stays (v := v) (H := H) (.inr h0) (n - j)
      rw [show j + (n - j) = n by omega] at this
      exact hn (.inr (by rw [this]; exact h0))
  have := VS.run_len (v := v) (H := H) (n + 1) hall
  omega

theorem sum_eq_all {f : Nat → Int} {H : Int} : ∀ {l : List Nat}, (∀ x ∈ l, H ≤ f x) → (l.map f).sum = H * (l.length : Int) → ∀ x ∈ l, f x = H
  | [], _, _ => fun x hx => by cases hx
  | a :: l, h, hs => by
    have hge : ∀ l : List Nat, (∀ x ∈ l, H ≤ f x) → H * (l.length : Int) ≤ (l.map f).sum := by
      intro l
      induction l with
      | nil => intro _; simp
      | cons b l ih =>
        intro hb
        have := ih (fun x hx => hb x (by simp [hx])); have h1 := hb b (by simp)
        simp only [List.map_cons, List.sum_cons, List.length_cons]
        rw [show ((l.length + 1 : Nat) : Int) = (l.length : Int) + 1 from rfl, Int.mul_add]; omega
    have ha := h a (by simp)
    have hl := hge l (fun x hx => h x (by simp [hx]))
    simp only [List.map_cons, List.sum_cons, List.length_cons] at hs
    rw [show ((l.length + 1 : Nat) : Int) = (l.length : Int) + 1 from rfl, Int.mul_add] at hs
    intro x hx
    rcases List.mem_cons.1 hx with hx | hx
    · rw [hx]; omega
    · exact sum_eq_all (fun x hx => h x (by simp [hx])) (by omega) x hx
theorem sum_lt_nil {f : Nat → Int} {H : Int} : ∀ {l : List Nat}, (∀ x ∈ l, f x < H) → (l.map f).sum = H * (l.length : Int) → l = []
  | [], _, _ => rfl
  | a :: l, h, hs => by
    have hle : ∀ l : List Nat, (∀ x ∈ l, f x < H) → (l.map f).sum ≤ H * (l.length : Int) := by
      intro l
      induction l with
      | nil => intro _; simp
      | cons b l ih =>
        intro hb
        have := ih (fun x hx => hb x (by simp [hx])); have h1 := hb b (by simp)
        simp only [List.map_cons, List.sum_cons, List.length_cons]
        rw [show ((l.length + 1 : Nat) : Int) = (l.length : Int) + 1 from rfl, Int.mul_add]; omega
    have ha := h a (by simp)
    have hl := hle l (fun x hx => h x (by simp [hx]))
    simp only [List.map_cons, List.sum_cons, List.length_cons] at hs
    rw [show ((l.length + 1 : Nat) : Int) = (l.length : Int) + 1 from rfl, Int.mul_add] at hs
    omega

theorem ownCols_length (H : Int) : ∀ (l : List Nat) (cols : List (Int × Int)), (ownCols H cols l).length = cols.length
  | [], _ => rfl
  | k :: l, cols => by show (ownCols H (cols.set k (H, (k : Int))) l).length = _; rw [ownCols_length H l]; simp
theorem ownCols_getD (H : Int) : ∀ (l : List Nat) (cols : List (Int × Int)) (k : Nat), k < cols.length → (ownCols H cols l).getD k (0, 0) = if k ∈ l then (H, (k : Int)) else cols.getD k (0, 0)
  | [], _, _, _ => by simp [ownCols]
  | a :: l, cols, k, hk => by
    show (ownCols H (cols.set a (H, (a : Int))) l).getD k (0, 0) = _
    rw [ownCols_getD H l _ k (by simpa using hk)]
    by_cases h1 : k ∈ l
    · rw [if_pos h1, if_pos (by simp [h1])]
    · rw [if_neg h1]
      by_cases h2 : a = k
      · subst h2; rw [getD_set_same _ _ _ _ hk, if_pos (by simp)]
      · rw [getD_set_other _ _ _ _ _ h2, if_neg (by simp only [List.mem_cons, not_or]; exact ⟨Ne.symm h2, h1⟩)]

/-- columns are right: so many; lines are in bounds, the other numbers too; each number has just its weight times how many columns -/
structure Just (w : List Int) (cols : List (Int × Int)) : Prop where
  size : cols.length = w.length
  bd : ∀ k, k < w.length → 0 ≤ (cols.getD k (0, 0)).1 ∧ (cols.getD k (0, 0)).1 ≤ w.sum ∧ 0 ≤ (cols.getD k (0, 0)).2 ∧ (cols.getD k (0, 0)).2 < (w.length : Int)
  just : ∀ k, k < w.length → cnt w.sum w.length cols [] k = w.getD k 0 * (w.length : Int)

theorem vose_just (w : List Int) (hpos : ∀ x ∈ w, 0 ≤ x) : Just w (vose w) := by
  have I0 := VS.start_inv w hpos
  have I : (voseV w).Inv w := VS.run_inv I0 w.length
  have hend : (voseV w).small = [] ∨ (voseV w).great = [] := VS.run_end I0.few
  have hH : 0 ≤ w.sum := by
    clear I0 I hend
    induction w with
    | nil => simp
    | cons a w ih => have := ih (fun x hx => hpos x (by simp [hx])); have := hpos a (by simp); simp; omega
  generalize hv : voseV w = v at *
  have hres : ∀ k ∈ v.small ++ v.great, v.rest.getD k 0 = w.sum := by
    have ht := I.total
    rcases hend with h | h
    · rw [h, List.nil_append] at ht ⊢
      exact sum_eq_all I.gr ht
    · rw [h, List.append_nil] at ht ⊢
      have := sum_lt_nil (fun x hx => (I.sm x hx).2) ht
      rw [this]; intro k hk; cases hk
  have hfin : ∀ k, k < w.length → (vose w).getD k (0, 0) = if k ∈ v.small ++ v.great then (w.sum, (k : Int)) else v.cols.getD k (0, 0) := by
    intro k hk
    show (ownCols w.sum (voseV w).cols ((voseV w).small ++ (voseV w).great)).getD k (0, 0) = _
    rw [hv, ownCols_getD _ _ _ _ (by rw [I.cl]; exact hk)]
  refine ⟨?_, fun k hk => ?_, fun k hk => ?_⟩
  · show (ownCols w.sum (voseV w).cols ((voseV w).small ++ (voseV w).great)).length = _
    rw [ownCols_length, hv, I.cl]
  · rw [hfin k hk]
    split
    · exact ⟨hH, Int.le_refl _, by omega, by simp only; omega⟩
    · next h => exact I.done k hk h
  · rw [← I.count k hk]
    unfold cnt
    have e : ∀ i, i < w.length → (if i ∈ ([] : List Nat) then 0 else contrib w.sum ((vose w).getD i (0, 0)) i k) = (fun i => (if i ∈ v.small ++ v.great then 0 else contrib w.sum (v.cols.getD i (0, 0)) i k) + (if i = k then (if k ∈ v.small ++ v.great then w.sum else 0) else 0)) i := by
      intro i hi
      rw [if_neg (by simp), hfin i hi]
      simp only
      by_cases hp : i ∈ v.small ++ v.great
      · rw [if_pos hp, if_pos hp]
        unfold contrib
        simp only
        by_cases hik : i = k
        · subst hik; rw [if_pos rfl, if_pos rfl, if_pos rfl, if_pos hp]; omega
        · rw [if_neg hik, if_neg (by omega), if_neg hik]
      · rw [if_neg hp, if_neg hp]
        by_cases hik : i = k
        · subst hik; rw [if_pos rfl, if_neg hp]; omega
        · rw [if_neg hik]; omega
    rw [sum_map_congr _ _ _ e]
    have hadd : ∀ (f g : Nat → Int) (l : List Nat), (l.map fun i => f i + g i).sum = (l.map f).sum + (l.map g).sum := by
      intro f g l
      induction l with
      | nil => rfl
      | cons a l ih => simp only [List.map_cons, List.sum_cons, ih]; omega
    rw [hadd]
    congr 1
    have hone : ∀ (c : Int) (n : Nat), k < n → ((List.range n).map fun i => if i = k then c else 0).sum = c := by
      intro c n hn
      rw [sum_map_update (fun i => if i = k then c else 0) (fun _ => 0) n k hn (fun i hi => if_neg hi)]
      have : ((List.range n).map fun _ => (0 : Int)).sum = 0 := by
        clear hn
        induction n with
        | zero => rfl
        | succ n ih => rw [List.range_succ, List.map_append, List.sum_append, ih]; rfl
      rw [this, if_pos rfl]; omega
    rw [hone _ _ hk]
    split
    · next h => exact (hres k h).symm
    · rfl

/-- a place of a column tells a number that has weight -/
def pickOf (cols : List (Int × Int)) (c : Nat) (at_ : Int) : Int := if at_ < (cols.getD c (0, 0)).1 then (c : Int) else (cols.getD c (0, 0)).2

theorem contrib_nonneg {H : Int} {c : Int × Int} (h0 : 0 ≤ c.1) (h1 : c.1 ≤ H) (s k : Nat) : 0 ≤ contrib H c s k := by
  unfold contrib; split <;> split <;> omega
theorem cnt_ge {w : List Int} {cols : List (Int × Int)} (J : Just w cols) {c k : Nat} (hc : c < w.length) (hk : k < w.length) : contrib w.sum (cols.getD c (0, 0)) c k ≤ w.getD k 0 * (w.length : Int) := by
  rw [← J.just k hk]
  unfold cnt
  have : ∀ n, c < n → n ≤ w.length → contrib w.sum (cols.getD c (0, 0)) c k ≤ ((List.range n).map fun s => if s ∈ ([] : List Nat) then 0 else contrib w.sum (cols.getD s (0, 0)) s k).sum := by
    intro n
    induction n with
    | zero => intro h; omega
    | succ n ih =>
      intro h1 h2
      rw [List.range_succ, List.map_append, List.sum_append]
      simp only [List.map_cons, List.map_nil, List.sum_cons, List.sum_nil, List.not_mem_nil, if_false] at ih ⊢
      have hn := contrib_nonneg (J.bd n (by omega)).1 (J.bd n (by omega)).2.1 n k
      by_cases hcn : c = n
      · subst hcn
        have : ∀ m, m ≤ c → 0 ≤ ((List.range m).map fun s => contrib w.sum (cols.getD s (0, 0)) s k).sum := by
          intro m
          induction m with
          | zero => intro _; simp
          | succ m ihm =>
            intro hm
            rw [List.range_succ, List.map_append, List.sum_append]
            have := contrib_nonneg (J.bd m (by omega)).1 (J.bd m (by omega)).2.1 m k
            have := ihm (by omega)
            simp only [List.map_cons, List.map_nil, List.sum_cons, List.sum_nil]; omega
        have := this c (Nat.le_refl _); omega
      · have := ih (by omega) (by omega); omega
  exact this w.length hc (Nat.le_refl _)

theorem pick_weight {w : List Int} {cols : List (Int × Int)} (J : Just w cols) {c : Nat} {a : Int} (hc : c < w.length) (h0 : 0 ≤ a) (h1 : a < w.sum) :
    ∃ k : Nat, pickOf cols c a = (k : Int) ∧ k < w.length ∧ 0 < w.getD k 0 := by
  obtain ⟨b1, b2, b3, b4⟩ := J.bd c hc
  have pos : ∀ k, 0 < w.getD k 0 * (w.length : Int) → 0 < w.getD k 0 := by
    intro k h
    rcases Int.lt_or_le 0 (w.getD k 0) with h' | h'
    · exact h'
    · have := Int.mul_le_mul_of_nonneg_right h' (show (0 : Int) ≤ (w.length : Int) by omega); omega
  unfold pickOf
  split
  · next h =>
    refine ⟨c, rfl, hc, pos c ?_⟩
    have := cnt_ge J hc hc
    unfold contrib at this
    rw [if_pos rfl] at this
    split at this <;> omega
  · next h =>
    obtain ⟨o, ho⟩ := Int.eq_ofNat_of_zero_le b3
    refine ⟨o, ho, by omega, pos o ?_⟩
    have := cnt_ge J hc (show o < w.length by omega)
    unfold contrib at this
    rw [if_pos ho] at this
    split at this <;> omega

/-- counts of the numbers, behind so many columns -/
def accC (H : Int) (n : Nat) (cols : List (Int × Int)) : Nat → List Int
  | 0 => List.replicate n 0
  | k + 1 =>
    let c := (accC H n cols k).set k ((accC H n cols k).getD k 0 + (cols.getD k (0, 0)).1)
    c.set (cols.getD k (0, 0)).2.toNat (c.getD (cols.getD k (0, 0)).2.toNat 0 + H - (cols.getD k (0, 0)).1)
theorem accC_length (H : Int) (n : Nat) (cols : List (Int × Int)) : ∀ k, (accC H n cols k).length = n
  | 0 => by simp [accC]
  | k + 1 => by simp [accC, accC_length H n cols k]
theorem accC_get {w : List Int} {cols : List (Int × Int)} (J : Just w cols) : ∀ k, k ≤ w.length → ∀ j, j < w.length →
    (accC w.sum w.length cols k).getD j 0 = ((List.range k).map fun s => contrib w.sum (cols.getD s (0, 0)) s j).sum
  | 0, _, j, hj => by simp [accC, hj]
  | k + 1, hk, j, hj => by
    have ih := accC_get J k (by omega)
    obtain ⟨b1, b2, b3, b4⟩ := J.bd k (by omega)
    have hl := accC_length w.sum w.length cols k
    obtain ⟨o, ho⟩ := Int.eq_ofNat_of_zero_le b3
    rw [List.range_succ, List.map_append, List.sum_append, ← ih j hj]
    simp only [accC, List.map_cons, List.map_nil, List.sum_cons, List.sum_nil, Int.add_zero]
    unfold contrib
    rw [ho, Int.toNat_natCast]
    rw [ho] at b4
    have hon : o < w.length := by omega
    by_cases h1 : o = j
    · subst h1
      rw [getD_set_same _ _ _ _ (by rw [List.length_set, hl]; exact hon)]
      by_cases h2 : k = o
      · subst h2; rw [getD_set_same _ _ _ _ (by rw [hl]; exact hon)]; split <;> split <;> omega
      · rw [getD_set_other _ _ _ _ _ h2]; split <;> split <;> omega
    · rw [getD_set_other _ _ _ _ _ h1]
      by_cases h2 : k = j
      · subst h2; rw [getD_set_same _ _ _ _ (by rw [hl]; exact hj)]; split <;> split <;> omega
      · rw [getD_set_other _ _ _ _ _ h2]; split <;> split <;> omega
theorem contrib_le {H : Int} {c : Int × Int} (h0 : 0 ≤ c.1) (h1 : c.1 ≤ H) (s k : Nat) : contrib H c s k ≤ H := by
  unfold contrib; split <;> split <;> omega
theorem accC_bd {w : List Int} {cols : List (Int × Int)} (J : Just w cols) (k : Nat) (hk : k ≤ w.length) (j : Nat) (hj : j < w.length) :
    0 ≤ (accC w.sum w.length cols k).getD j 0 ∧ (accC w.sum w.length cols k).getD j 0 ≤ w.sum * (k : Int) := by
  rw [accC_get J k hk j hj]
  induction k with
  | zero => simp
  | succ k ih =>
    have ih := ih (by omega)
    obtain ⟨b1, b2, _, _⟩ := J.bd k (by omega)
    have h1 := contrib_nonneg b1 b2 k j
    have h2 := contrib_le b1 b2 k j
    rw [List.range_succ, List.map_append, List.sum_append]
    simp only [List.map_cons, List.map_nil, List.sum_cons, List.sum_nil, Int.add_zero]
    rw [show ((k + 1 : Nat) : Int) = (k : Int) + 1 from rfl, Int.mul_add, Int.mul_one]
    omega
theorem accC_all {w : List Int} {cols : List (Int × Int)} (J : Just w cols) (j : Nat) (hj : j < w.length) : (accC w.sum w.length cols w.length).getD j 0 = w.getD j 0 * (w.length : Int) := by
  rw [accC_get J _ (Nat.le_refl _) j hj, ← J.just j hj]
  unfold cnt; simp
end Go.Proofs.YtajnfkmkombajabGreatDoor
namespace Go.Proofs.YtajnfkmkombajabGreatDoor
open Go.RowKit

/-- a weight that may not be -/
def badW (n : Int) : Bool := decide (n < 0) || decide (1073741824 < n)

theorem draw_bad (n : Int) (w : World) : Calls Tryz.prog 130 #[.int .i64 n] w fun e w' => e = .returned (.bool (badW n)) ∧ w = w' := by
  by_cases h : n < 0
  · have H := Lib.hid (show badW n = true by simp [badW, h])
    go_enter Tryz.func130, Tryz.ntmps130
    go_wp2
    go_ret
    exact ⟨by rw [H.out]; rfl, rfl⟩
  · have h0 : 0 ≤ n := by omega
    clear h
    go_enter Tryz.func130, Tryz.ntmps130
    go_wp2
    go_ret
    exact ⟨rfl, rfl⟩

/-- the first weight that may not be; -1: none -/
def firstBad (zs : List Int) : Int := if zs.findIdx badW < zs.length then (zs.findIdx badW : Int) else -1

theorem findIdx_here {zs : List Int} {k : Nat} (hk : k < zs.length) (hb : badW (zs.getD k 0) = true) (hn : ∀ j, j < k → badW (zs.getD j 0) = false) : firstBad zs = (k : Int) := by
  have e : zs.findIdx badW = k := by
    rw [List.findIdx_eq hk]
    refine ⟨by simpa [List.getD_eq_getElem?_getD, hk] using hb, fun j hj => ?_⟩
    have := hn j hj
    simpa [List.getD_eq_getElem?_getD, Nat.lt_trans hj hk] using this
  unfold firstBad; rw [e, if_pos hk]
theorem findIdx_none {zs : List Int} (hn : ∀ j, j < zs.length → badW (zs.getD j 0) = false) : firstBad zs = -1 := by
  unfold firstBad
  rw [if_neg]
  intro hlt
  have h1 := List.findIdx_getElem (w := hlt)
  have h2 := hn _ hlt
  rw [List.getD_eq_getElem?_getD, List.getElem?_eq_getElem hlt] at h2
  simp only [Option.getD_some] at h2
  rw [h1] at h2; cases h2

set_option maxHeartbeats 400000 in
theorem slices_IndexFunc (ao : Option Addr) (len cap : Nat) (zs : List Int) (w : World) (R : RdI .i64 w ao len cap zs) :
    Calls Tryz.prog 129 #[.slice ao len cap, .func (.func 130) #[] #[]] w fun e w' => e = .returned (.int .i64 (firstBad zs)) ∧ w = w' := by
  have HR := Lib.hid R
  have hm : len ≤ 9223372036854775807 := by have := R.lc; have := R.cm; unfold maxLen at *; omega
  clear R
  go_enter Tryz.func129, Tryz.ntmps129
  go_wp2_with fail
  go_loop [8] (fun i => ∃ k : Nat, k ≤ len ∧ i = .int .i64 k ∧ ∀ j, j < k → badW (zs.getD j 0) = false) (fun i => len - (intOf i).toNat)
  case atStart => exact ⟨0, Nat.zero_le _, rfl, fun j hj => by omega⟩
  case round =>
    obtain ⟨k, hk, rfl, hn⟩ := hrel
    by_cases hlt : k < len
    · obtain ⟨b, off, ha, hc⟩ := HR.out.cells k hlt
      have Hn := Lib.hid hn; clear hn
      have Ha := Lib.hid ha; clear ha
      have := Ha.out; subst this
      generalize hz : zs.getD k 0 = z at *
      have Hz := Lib.hid hz; clear hz
      go_wp2_with fail
      refine (draw_bad _ _).mono ?_
      rintro e w' ⟨rfl, rfl⟩
      by_cases hb : badW z = true
      · have HB := Lib.hid (findIdx_here (zs := zs) (k := k) (by rw [HR.out.size]; exact hlt) (by rw [Hz.out]; exact hb) Hn.out)
        rw [hb]
        clear hb
        go_wp2_with fail
        go_ret
        exact ⟨by rw [HB.out]; rfl, rfl⟩
      · have hb' : badW z = false := by simpa using hb
        have HB := Lib.hid hb'
        rw [hb']
        clear hb hb'
        go_wp2_with fail
        go_round
        case rel => exact ⟨k + 1, by omega, by go_num, fun j hj => by
          rcases Nat.lt_or_ge j k with h | h
          · exact Hn.out j h
          · rw [show j = k by omega, Hz.out]; exact HB.out⟩
        case measure => simp [intOf]; omega
    · have HB := Lib.hid (findIdx_none (zs := zs) (fun j hj => hn j (by have := HR.out.size; omega)))
      clear hn
      go_wp2
      go_ret
      exact ⟨by rw [HB.out]; rfl, rfl⟩

theorem Tryz.zeroInt (w : World) : (zeroValue 3).run Tryz.prog w = .ok (.int .i64 0) w := by kernel_rfl

set_option maxRecDepth 8000 in
/-- slices.Grow(nil, n) -/
theorem slices_Grow_nil (n : Nat) (w : World) (hn : n ≤ 1000) :
    Calls Tryz.prog 177 #[.slice none 0 0, .int .i64 n] w fun e w' => ∃ v, e = .returned v ∧ w'.ownsRow w.heap.size 3 1 v 0 [] ∧ Below w.heap.size w w' := by
  obtain ⟨i0, hi, hz0, hz1, hz2⟩ := info_parts (show (Tryz.prog.info? 3).map (fun i => (i.zero, i.size, i.bytes)) = some (some (.int .i64 0), 1, 8) by kernel_rfl)
  rcases Nat.eq_zero_or_pos n with rfl | h0
  · go_enter Tryz.func177, Tryz.ntmps177
    go_wp2
    go_ret
    exact ⟨_, rfl, World.ownsRow_nil _ _ _ _, Below.refl _ _⟩
  · have hr := fun ty => Lib.run_append_nil_zeros (P := Tryz.prog) w 58 3 ty 3 i0 (.int .i64 0) .i64 .i64 Tryz.underlying58 Tryz.underlying3 hi hz0 n h0 (by rw [hz1]; decide) (by omega) (by rw [hz2]; omega)
    have hge := grownCap_ge w n 0 3
    have hcm := grownCap_le_maxLen w n 0 3 (by unfold maxLen; omega)
    have hd0 : (0 : Int) < (n : Int) := by omega
    generalize hcap : grownCap w n 0 3 = cap at *
    have hcl : (Builtin.zeroCells (Value.int .i64 0).cells n ++ Builtin.zeroCells (Value.int .i64 0).cells (cap - n)).size = cap * 1 := by
      simp [Builtin.zeroCells, Value.cells]; omega
    generalize hcs : Builtin.zeroCells (Value.int .i64 0).cells n ++ Builtin.zeroCells (Value.int .i64 0).cells (cap - n) = cs at *
    have HM := Lib.hid hcm; have HG := Lib.hid hge; have HL := Lib.hid hcl
    clear hcs hcap hcm hge hcl hi hz0 hz1 hz2
    go_enter Tryz.func177, Tryz.ntmps177
    have HR := Lib.hid hr; clear hr
    go_wp2_with (at_builtin; refine Lib.wpList_append_run _ rfl (.tmp 20) (.tmp 21) 58 3 rfl _ _ rfl rfl _ _ (HR.out _) ?_)
    all_goals go_ret
    all_goals exact ⟨_, rfl, World.ownsRow_made w.drew cs cap (Nat.le_refl _) HM.out HL.out, ((Below.refl _ _).alloc (Nat.le_refl _) _).drew⟩

/-- what Concat leaves: a slice of the call's own -/
def CatPost (xs ys : List Int) (w : World) (e : Ending) (w' : World) : Prop := ∃ ao cap, e = .returned (.slice ao (xs.length + ys.length) cap) ∧ w'.ownsRow w.heap.size 3 1 (.slice ao (xs.length + ys.length) cap) (xs.length + ys.length) ((xs ++ ys).map (Value.int .i64)) ∧ Below w.heap.size w w'

set_option maxRecDepth 8000 in
set_option maxHeartbeats 1000000 in
/-- slices.Concat(x, y) -/
theorem slices_Concat (lb : Nat) (ax ay : Option Addr) (cx cy : Nat) (xs ys : List Int) (w : World) (RX : RdI .i64 w ax xs.length cx xs) (RY : RdI .i64 w ay ys.length cy ys)
    (h0 : w.cell? ⟨lb, 0, none⟩ = some (.slice ax xs.length cx)) (h1 : w.cell? ⟨lb, 1, none⟩ = some (.slice ay ys.length cy)) (hn : xs.length + ys.length ≤ 1000) :
    Calls Tryz.prog 159 #[.slice (some ⟨lb, 0, none⟩) 2 2] w (CatPost xs ys w) := by
  obtain ⟨i0, hi, hz0, hz1, hz2⟩ := info_parts (show (Tryz.prog.info? 3).map (fun i => (i.zero, i.size, i.bytes)) = some (some (.int .i64 0), 1, 8) by kernel_rfl)
  have HX := Lib.hid RX; have HY := Lib.hid RY
  have H0 := Lib.hid h0; have H1 := Lib.hid h1
  have hbl := World.block_lt_of_cell? _ _ h0
  have lx := RX.size; have ly := RY.size
  clear RX RY
  go_enter Tryz.func159, Tryz.ntmps159
  go_wp2_with fail
  refine wp_loop_rounds 3 ?_
  rw [rounds_succ]
  go_wp2_with fail
  rw [rounds_succ]
  go_wp2_with fail
  rw [rounds_succ]
  go_wp2_with fail
  rw [show ((xs.length : Int) + (ys.length : Int)) = ((xs.length + ys.length : Nat) : Int) from by omega]
  refine (slices_Grow_nil _ _ hn).mono ?_
  rintro e w1 ⟨v, rfl, ho1, hb1⟩
  have c0 := H0.out; have c1 := H1.out
  rw [← hb1.cell (p := ⟨lb, 0, none⟩) hbl] at c0
  rw [← hb1.cell (p := ⟨lb, 1, none⟩) hbl] at c1
  have hz := hb1.size
  have RX1 := HX.out.below hb1
  have Ho1 := Lib.hid ho1; clear ho1
  clear H0 H1 h0 h1
  go_wp2_with fail
  refine wp_loop_rounds 3 ?_
  rw [rounds_succ]
  go_wp2_with (at_builtin; refine wpList_append_rd _ rfl (.tmp 31) (.tmp 32) 58 rfl w.heap.size 3 i0 (.int .i64 0) 8 Tryz.underlying58 hi hz0 hz1 hz2 rfl _ 0 [] rfl Ho1.out .i64 ax xs.length cx xs rfl RX1 (by unfold maxLen; omega) (by omega) hz ?_)
  intro v2 w2 ho2 hg2
  have hb2 : Below w.heap.size w w2 := Below.grown hb1 hg2 hz (fun k hk => (Ho1.out.lt k hk).1)
  have c1' := hg2.cell c1 (own_block Ho1.out hbl)
  clear c0 c1 hg2
  have RY2 := HY.out.below hb2
  have hz2' := hb2.size
  have Ho2 := Lib.hid (show w2.ownsRow w.heap.size 3 1 v2 xs.length (xs.map (Value.int .i64)) from by simpa using ho2); clear ho2
  clear RX1 hb1
  go_wp2_with fail
  rw [rounds_succ]
  go_wp2_with (at_builtin; refine wpList_append_rd _ rfl (.tmp 31) (.tmp 32) 58 rfl w.heap.size 3 i0 (.int .i64 0) 8 Tryz.underlying58 hi hz0 hz1 hz2 rfl _ xs.length (xs.map (Value.int .i64)) rfl Ho2.out .i64 ay ys.length cy ys rfl RY2 (by unfold maxLen; omega) (by omega) hz2' ?_)
  intro v3 w3 ho3 hg3
  have hb3 : Below w.heap.size w w3 := Below.grown hb2 hg3 hz2' (fun k hk => (Ho2.out.lt k hk).1)
  have Ho3 := Lib.hid (show w3.ownsRow w.heap.size 3 1 v3 (xs.length + ys.length) ((xs ++ ys).map (Value.int .i64)) from by simpa [List.map_append] using ho3); clear ho3
  clear c1' hg3 RY2
  go_wp2_with fail
  rw [rounds_succ]
  go_wp2_with fail
  obtain ⟨ao, cap, hv⟩ := own_shape Ho3.out
  have HV := Lib.hid hv; clear hv
  have h3 := Ho3.out
  rw [HV.out] at h3 ⊢
  go_ret
  exact ⟨ao, cap, rfl, h3, hb3⟩
end Go.Proofs.YtajnfkmkombajabGreatDoor
