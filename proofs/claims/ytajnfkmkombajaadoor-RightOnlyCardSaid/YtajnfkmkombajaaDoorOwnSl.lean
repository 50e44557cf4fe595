/- A slice of one-cell elements that the call owns, wherever in its block it begins: reading, l[1:], appending one element. No program in sight. -/
import Derived.Test.YtajnfkmkombajaaDoorKeep
import Derived.ArgAppend
import Derived.Deep.RegionLaw
set_option linter.unusedVariables false
set_option linter.unusedSimpArgs false
namespace Go.Proofs.YtajnfkmkombajaaDoor
open Go.RowKit

/-- v is nil, or lies in a block from base on that may be written whole; it reads as xs -/
def OwnSl (base : Nat) (e : TypeId) (v : Value) (xs : List Value) (w : World) : Prop :=
  (v = .slice none 0 0 ∧ xs = []) ∨
  ∃ g off cap cur, v = .slice (some ⟨g, off, none⟩) xs.length cap ∧ base ≤ g ∧ w.heap[g]? = some (.cells cur e (0, 0)) ∧ xs.length ≤ cap ∧ cap ≤ maxLen ∧ off + cap ≤ cur.size ∧ (cur.toList.drop off).take xs.length = xs

section
variable {base : Nat} {e : TypeId} {v : Value} {xs : List Value} {w w' : World}

theorem OwnSl.nil (base : Nat) (e : TypeId) (w : World) : OwnSl base e (.slice none 0 0) [] w := .inl ⟨rfl, rfl⟩
theorem OwnSl.shape (h : OwnSl base e v xs w) : ∃ ao cap, v = .slice ao xs.length cap ∧ xs.length ≤ cap ∧ cap ≤ maxLen := by
  rcases h with ⟨rfl, rfl⟩ | ⟨g, off, cap, cur, rfl, _, _, h1, h2, _⟩
  · exact ⟨none, 0, rfl, Nat.le_refl _, by simp⟩
  · exact ⟨_, cap, rfl, h1, h2⟩
theorem OwnSl.blk (h : OwnSl base e v xs w) {k : Nat} (hk : v.ownBlock = some k) : base ≤ k ∧ k < w.heap.size := by
  rcases h with ⟨rfl, _⟩ | ⟨g, off, cap, cur, rfl, hb, hg, _⟩
  · cases hk
  · cases hk; exact ⟨hb, lt_of_block hg⟩
theorem OwnSl.kept (h : OwnSl base e v xs w) (hk : ∀ g, v.ownBlock = some g → w'.heap[g]? = w.heap[g]?) : OwnSl base e v xs w' := by
  rcases h with h | ⟨g, off, cap, cur, rfl, hb, hg, r⟩
  · exact .inl h
  · exact .inr ⟨g, off, cap, cur, rfl, hb, by rw [hk g rfl]; exact hg, r⟩
theorem OwnSl.keep {F : Nat → Prop} (h : OwnSl base e v xs w) (k : Keep F w w') (hF : ∀ g, v.ownBlock = some g → ¬ F g) : OwnSl base e v xs w' :=
  h.kept fun g hg => k.block g (h.blk hg).2 (hF g hg)
theorem OwnSl.alloc (h : OwnSl base e v xs w) (o : Obj) : OwnSl base e v xs (w.alloc o) := h.kept fun g hg => Below.heap_alloc _ _ _ (h.blk hg).2
theorem OwnSl.setCell_other (h : OwnSl base e v xs w) {a : Addr} (ha : v.ownBlock ≠ some a.block) (u : Value) : OwnSl base e v xs (w.setCell a u) :=
  h.kept fun g hg => Below.heap_setCell _ _ _ _ (by rintro rfl; exact ha hg)
theorem OwnSl.grown {row : Option Nat} (h : OwnSl base e v xs w) (hg : w.grownBy w' row) (hne : ∀ g, v.ownBlock = some g → some g ≠ row) : OwnSl base e v xs w' :=
  h.kept fun g hv => hg.block g (h.blk hv).2 (hne g hv)
theorem OwnSl.mono {base' : Nat} (h : OwnSl base e v xs w) (hb : base' ≤ base) : OwnSl base' e v xs w := by
  rcases h with h | ⟨g, off, cap, cur, rfl, h1, r⟩
  · exact .inl h
  · exact .inr ⟨g, off, cap, cur, rfl, by omega, r⟩

theorem OwnSl.of_own {n : Nat} (h : w.ownsRow base e 1 v n xs) : OwnSl base e v xs w := by
  have hl : xs.length = n := by have := h.1; omega
  subst hl
  rcases h.2 with ⟨hv, hn⟩ | ⟨g, cap, cur, hv, hb, hg, hnc, hcm, hcs, ht⟩
  · exact .inl ⟨hv, List.eq_nil_of_length_eq_zero hn⟩
  · exact .inr ⟨g, 0, cap, cur, hv, hb, hg, hnc, hcm, by omega, by simpa using ht⟩

theorem sl_cell {cur : Array Value} {off i n : Nat} {xs : List Value} (h : (cur.toList.drop off).take n = xs) (hi : i < n) : cur[off + i]? = xs[i]? := by
  rw [← h, List.getElem?_take, if_pos hi, List.getElem?_drop]; simp

/-- its cells -/
theorem OwnSl.cells (h : OwnSl base e v xs w) (h0 : 0 < xs.length) : ∃ g off cap, v = .slice (some ⟨g, off, none⟩) xs.length cap ∧ base ≤ g ∧ g < w.heap.size ∧ xs.length ≤ cap ∧ cap ≤ maxLen ∧ ∀ i, i < xs.length → w.cell? ⟨g, off + i, none⟩ = xs[i]? := by
  rcases h with ⟨_, rfl⟩ | ⟨g, off, cap, cur, rfl, hb, hg, h1, h2, h3, h4⟩
  · simp at h0
  · refine ⟨g, off, cap, rfl, hb, lt_of_block hg, h1, h2, fun i hi => ?_⟩
    rw [← sl_cell h4 hi]; simp [World.cell?, hg]

theorem tail_step {cur : Array Value} {off cap : Nat} {x : Value} {xs : List Value} (h1 : xs.length + 1 ≤ cap) (h4 : (cur.toList.drop off).take (xs.length + 1) = x :: xs) : (cur.toList.drop (if cap = 1 then off else off + 1)).take xs.length = xs := by
  have hx : (cur.toList.drop (off + 1)).take xs.length = xs := by
    have := congrArg List.tail h4
    rw [List.tail_cons] at this
    rw [← this]
    cases hd : cur.toList.drop off with
    | nil => rw [hd] at h4; simp at h4
    | cons y ys => rw [← List.tail_drop, hd]; simp
  split
  · have : xs = [] := List.eq_nil_of_length_eq_zero (by omega)
    subst this; simp
  · exact hx

/-- l[1:] -/
theorem OwnSl.tail {P : Program} {t : TypeId} {x : Value} (ht : P.underlying t = some (.slice (P.elem t))) (hsz : ∀ wx : World, (sizeOf (P.elem t)).run P wx = .ok 1 wx) (k : IntKind) (h : OwnSl base e v (x :: xs) w) :
    ∃ v', (∀ wx : World, (Instr.slice t v (some (.int k 1)) none none).run P wx = .ok v' wx) ∧ (∀ w2 : World, OwnSl base e v (x :: xs) w2 → OwnSl base e v' xs w2) ∧ (∃ ao cap, v' = .slice ao xs.length cap) ∧ v'.ownBlock = v.ownBlock := by
  rcases h with ⟨_, h⟩ | ⟨g, off, cap, cur, rfl, hb, hg, h1, h2, h3, h4⟩
  · cases h
  · simp only [List.length_cons] at h1 h3 h4 ⊢
    refine ⟨.slice (some (if cap = 1 then ⟨g, off, none⟩ else ⟨g, off + 1, none⟩)) xs.length (cap - 1), fun wx => ?_, fun w2 h' => ?_, ⟨_, _, rfl⟩, ?_⟩
    · rw [run_slice_l wx t _ _ _ ht k 1 (by omega) (by omega), hsz]
      simp only [Result.andThen, sliced, Int.toNat_one, Nat.one_mul, Nat.add_sub_cancel]
      by_cases hc : cap = 1
      · simp [hc]
      · simp [hc, Addr.add]
    · clear hg h2 h3 h4
      rcases h' with ⟨_, h⟩ | ⟨g', off', cap', cur', hv, hb', hg, h1', h2, h3, h4⟩
      · cases h
      · cases hv
        simp only [List.length_cons] at h4
        refine .inr ⟨g, if cap = 1 then off else off + 1, cap - 1, cur', ?_, hb, hg, by omega, by omega, by split <;> omega, tail_step h1 h4⟩
        split <;> simp
    · split <;> rfl

/-- one element is appended -/
theorem run_append_sl {P : Program} (w : World) (t ty : TypeId) (base : Nat) (e : TypeId) (i : TypeInfo) (z : Value) (bytes : Nat) (ht : P.underlying t = some (.slice e)) (hi : P.info? e = some i) (hz : i.zero = some z)
    (hsize : i.size = 1) (hby : i.bytes = bytes) (hzs : z.cells.size = 1)
    (v : Value) (xs : List Value) (hown : OwnSl base e v xs w) (ad : Addr) (x : Value) (hc : ∀ j u, [x][j]? = some u → w.cell? (ad.add j) = some u) (h1 : ∀ u ∈ [x], u.oneCell' = true)
    (h63 : xs.length + 1 ≤ maxLen) (hbytes : (xs.length + 1) * bytes ≤ 140737488355328) (hbase : base ≤ w.heap.size) :
    ∃ v' w', (Builtin.append_ #[t, t] ty #[v, .slice (some ad) 1 1]).run P w = .ok v' w' ∧ OwnSl base e v' (xs ++ [x]) w' ∧ w.grownBy w' v.ownBlock ∧ (v'.ownBlock = v.ownBlock ∨ v'.ownBlock = some w.heap.size) := by
  rcases hown with ⟨rfl, rfl⟩ | ⟨g, off, cap, cur, rfl, hb, hg, hl1, hl2, hl3, hl4⟩
  · obtain ⟨v', w', hr, h2, h3, _, h5⟩ := run_append_own_at (P := P) w base t ty e i z 1 bytes ht hi hz hsize hby hzs (by decide) (.slice none 0 0) 0 [] (World.ownsRow_nil _ _ _ _) ad 1 1 [x] rfl hc h1 h63 hbytes hbase
    exact ⟨v', w', hr, OwnSl.of_own h2, h3, h5⟩
  · by_cases hroom : xs.length + 1 ≤ cap
    · have hlt := lt_of_block hg
      have hr := run_append_room_cells (P := P) w t ty e i ht hi g off xs.length cap ad 1 1 [x] (by simp [hsize]) hc h1 hroom
        (fun j hj => by simp at hj; subst hj; simp [World.cell?, hg, hsize]; omega) (fun j hj => by simp [World.frozen?, hg])
      refine ⟨_, _, hr, ?_, ?_, .inl rfl⟩
      · simp only [World.setCells, hsize, Nat.mul_one]
        have hgs : (w.setCell ⟨g, off + xs.length, none⟩ x).heap[g]? = some (.cells (cur.setIfInBounds (off + xs.length) x) e (0, 0)) := by
          have h' : w.heap[g] = .cells cur e (0, 0) := by simpa [Array.getElem?_eq_getElem hlt] using hg
          show (w.heap.modify g _)[g]? = _
          rw [Array.getElem?_eq_getElem (by simpa using hlt), Array.getElem_modify_self, h']
          simp
        refine .inr ⟨g, off, cap, _, by simp, hb, hgs, by simp; omega, hl2, by simpa using hl3, ?_⟩
        apply List.ext_getElem?
        intro k
        rw [List.getElem?_take]
        split
        · next hk =>
          rw [List.getElem?_drop, Array.getElem?_toList, Array.getElem?_setIfInBounds]
          simp only [List.length_append, List.length_cons, List.length_nil, Nat.zero_add] at hk
          by_cases hkk : k = xs.length
          · subst hkk
            rw [if_pos rfl, if_pos (by omega)]; simp
          · rw [if_neg (by omega), sl_cell hl4 (by omega), List.getElem?_append_left (by omega)]
        · next hk =>
          rw [List.getElem?_eq_none (by omega)]
      · simp only [World.setCells, hsize, Nat.mul_one]
        exact ⟨rfl, rfl, rfl, by simp [World.setCell], fun k hk hne => Below.heap_setCell _ _ _ _ (fun e => hne (by simp [Value.ownBlock, e]))⟩
    · obtain ⟨v', w', hr, h2, h3⟩ := run_append_arg_grows (P := P) w t ty e i z 1 bytes ht hi hz hsize hby hzs (by decide) ⟨g, off, none⟩ xs.length cap xs (by simp)
        (fun j u hj => by
          rw [Addr.add_lit]
          have hj' : j < xs.length := (List.getElem?_eq_some_iff.1 hj).1
          rw [← hj, ← sl_cell hl4 hj']; simp [World.cell?, hg]) ad 1 1 [x] rfl hc (by omega) h63 hbytes
      have hb2 := (OwnSl.of_own h2)
      have hg2 : w.grownBy w' (Value.ownBlock (.slice (some ⟨g, off, none⟩) xs.length cap)) := ⟨h3.os, h3.tape, h3.output, h3.size, fun k hk _ => h3.block k hk (by simp)⟩
      have hr' := run_append_grow (P := P) w t ty e i z ht hi hz ⟨g, off, none⟩ xs.length cap xs (by simp [hsize]) (fun j u hj => by
          rw [Addr.add_lit]
          have hj' : j < xs.length := (List.getElem?_eq_some_iff.1 hj).1
          rw [← hj, ← sl_cell hl4 hj']; simp [World.cell?, hg]) ad 1 1 [x] (by simp [hsize]) hc (by omega) (by simp only [maxLen] at h63; omega) (growslice_fits (by omega) (by rw [hby]; exact hbytes))
      rw [hr'] at hr
      have hv : v' = .slice (some ⟨w.heap.size, 0, none⟩) (xs.length + 1) (grownCap w (xs.length + 1) cap e) := by cases hr; rfl
      exact ⟨v', w', by rw [hr']; exact hr, hb2.mono hbase, hg2, .inr (by rw [hv]; rfl)⟩

/-- At the operation's list: for the walk. -/
theorem wpList_append_sl {P : Program} (w : World) {ops : Array Oper} {rest : List Oper} {o : Oper} {a : Act} {Q : Exit → Act → World → Prop} (hgd : o.guard = none) (s x : Operand) (t : TypeId)
    (ho : o.op = .call { callee := .builtin .append, args := #[s, x], argTypes := #[t, t] })
    (base : Nat) (e : TypeId) (i : TypeInfo) (z : Value) (bytes : Nat) (ht : P.underlying t = some (.slice e)) (hi : P.info? e = some i) (hz : i.zero = some z)
    (hsize : i.size = 1) (hby : i.bytes = bytes) (hzs : z.cells.size = 1)
    (v : Value) (xs : List Value) (hs : a.eval s = v) (hown : OwnSl base e v xs w)
    (ad : Addr) (u : Value) (hx : a.eval x = .slice (some ad) 1 1) (hc : ∀ j y, [u][j]? = some y → w.cell? (ad.add j) = some y) (h1 : ∀ y ∈ [u], y.oneCell' = true)
    (h63 : xs.length + 1 ≤ maxLen) (hbytes : (xs.length + 1) * bytes ≤ 140737488355328) (hbase : base ≤ w.heap.size)
    (h : ∀ v' w', OwnSl base e v' (xs ++ [u]) w' → w.grownBy w' v.ownBlock → (v'.ownBlock = v.ownBlock ∨ v'.ownBlock = some w.heap.size) → wpList P ops Q rest (a.put o.dst v') w') : wpList P ops Q (o :: rest) a w := by
  refine wpList_plain hgd fun K hK => ?_
  obtain ⟨v', w', hr, h2, h3, h4⟩ := run_append_sl (P := P) w t o.type base e i z bytes ht hi hz hsize hby hzs v xs hown ad u hc h1 h63 hbytes hbase
  unfold Oper.wp execOp
  simp only [ho, resolve, invoke, builtin, Sem.run_bind, Sem.run_pure, Result.andThen_ok, List.map_toArray, List.map_cons, List.map_nil, hs, hx, hr]
  exact hK _ _ (h v' w' h2 h3 h4)

/-- At a step of a region that draws its order: for go_region_law. -/
theorem step_append_sl {P : Program} {ops : Array Oper} {o : Oper} {a : Act} {w : World} {K : Act → World → Prop} {Q : Exit → Act → World → Prop} {E : Prop} (hgd : o.guard = none) (s x : Operand) (t : TypeId)
    (ho : o.op = .call { callee := .builtin .append, args := #[s, x], argTypes := #[t, t] })
    (base : Nat) (e : TypeId) (i : TypeInfo) (z : Value) (bytes : Nat) (ht : P.underlying t = some (.slice e)) (hi : P.info? e = some i) (hz : i.zero = some z)
    (hsize : i.size = 1) (hby : i.bytes = bytes) (hzs : z.cells.size = 1)
    (v : Value) (xs : List Value) (hs : a.eval s = v) (hown : OwnSl base e v xs w)
    (ad : Addr) (u : Value) (hx : a.eval x = .slice (some ad) 1 1) (hc : ∀ j y, [u][j]? = some y → w.cell? (ad.add j) = some y) (h1 : ∀ y ∈ [u], y.oneCell' = true)
    (h63 : xs.length + 1 ≤ maxLen) (hbytes : (xs.length + 1) * bytes ≤ 140737488355328) (hbase : base ≤ w.heap.size)
    (h : ∀ v' w', OwnSl base e v' (xs ++ [u]) w' → w.grownBy w' v.ownBlock → (v'.ownBlock = v.ownBlock ∨ v'.ownBlock = some w.heap.size) → K (a.put o.dst v') w') :
    if Region.wanted o (yielded ops a.tmps) = true then Oper.wp P o a w K Q else E := by
  have hw : Region.wanted o (yielded ops a.tmps) = true := by simp [Region.wanted, hgd]
  rw [if_pos hw]
  obtain ⟨v', w', hr, h2, h3, h4⟩ := run_append_sl (P := P) w t o.type base e i z bytes ht hi hz hsize hby hzs v xs hown ad u hc h1 h63 hbytes hbase
  unfold Oper.wp execOp
  simp only [ho, resolve, invoke, builtin, Sem.run_bind, Sem.run_pure, Result.andThen_ok, List.map_toArray, List.map_cons, List.map_nil, hs, hx, hr]
  exact h v' w' h2 h3 h4
end
end Go.Proofs.YtajnfkmkombajaaDoor
