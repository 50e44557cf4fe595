/- Fairness of each act on a pool, in plain numbers. No program in sight. -/
import Derived.Test.YtajnfkmkombajacDoorPlPool
set_option linter.unusedVariables false
set_option linter.unusedSimpArgs false
namespace Go.Proofs.YtajnfkmkombajacDoor
open Go.RowKit

/-- what one act on a pool leaves: c its error's number, o its owner, n its amount -/
structure Fair (q q' : QS) (c : Nat) (sl jn tk ad : Bool) (o n : Int) : Prop where
  same : c ≠ 0 → ∀ k, q'.value k = q.value k
  others : sl = false → ∀ k, ¬ (k = o ∧ ad = false) → q.value k ≤ q'.value k
  join : c = 0 → jn = true → q'.value o ≤ q.value o + n + 1
  take : c = 0 → tk = true → q'.value o ≤ q.value o - n + 1
  slash : sl = true → ∀ k, q'.value k ≤ q.value k
  bd : c = 0 → (jn = true ∨ tk = true) → 1 ≤ n ∧ n ≤ 1125899906842624

theorem Fair.stay (q : QS) {c : Nat} (hc : c ≠ 0) (sl jn tk ad : Bool) (o n : Int) : Fair q q c sl jn tk ad o n :=
  ⟨fun _ _ => rfl, fun _ _ _ => Int.le_refl _, fun h => absurd h hc, fun h => absurd h hc, fun _ _ => Int.le_refl _, fun h => absurd h hc⟩

theorem fair_change {q : QS} (h : q.Ok) {o s n : Int} (ho : ownB o = true) (hok : (q.change o s n).Ok) (hw : q.total * (q.all + s) ≤ (q.total + n) * q.all) {k : Int} (hk : k ≠ o) : q.value k ≤ (q.change o s n).value k := h.other ho hok hw hk

theorem fair_join {q : QS} (h : q.Ok) (o n : Int) : Fair q (q.joinOp o n).2 (q.joinOp o n).1 false true false false o n := by
  have hok := QS.joinOp_ok h o n
  unfold QS.joinOp at hok ⊢
  split at hok
  · next h1 => rw [if_pos h1]; exact Fair.stay q (by simp) ..
  · next h1 =>
    rw [if_neg h1]
    split at hok
    · next h2 => rw [if_pos h2]; exact Fair.stay q (by simp) ..
    · next h2 =>
      rw [if_neg h2]
      split at hok
      · next h3 => rw [if_pos h3]; exact Fair.stay q (by simp) ..
      · next h3 =>
        rw [if_neg h3]
        split at hok
        · next h4 => rw [if_pos h4]; exact Fair.stay q (by simp) ..
        · next h4 =>
          rw [if_neg h4]
          split at hok
          · next h5 => rw [if_pos h5]; exact Fair.stay q (by simp) ..
          · next h5 =>
            rw [if_neg h5]
            obtain ⟨ho, hn, hn2⟩ := plookC_zero.1 (Decidable.not_not.1 h1)
            have hb := h.joinS_bd hn (Decidable.not_not.1 h3) h2
            replace hok : (q.change o (q.joinS n) n).Ok := hok
            have hw : q.total * (q.all + q.joinS n) ≤ (q.total + n) * q.all := by
              rw [Int.mul_add, Int.add_mul]
              have e1 : q.total * q.joinS n = q.joinS n * q.total := Int.mul_comm _ _
              omega
            refine ⟨fun hc => absurd rfl hc, fun _ k hk => h.other ho hok hw (fun e => hk ⟨e, rfl⟩), fun _ _ => ?_, fun _ h => (by cases h), fun h => (by cases h), fun _ _ => ⟨hn, hn2⟩⟩
            rcases h.mine ho hok hw with hm | hm
            · exact hm
            · have hv := hok.value_bd o
              have ht := h.nil hm
              have h0 := (h.value_bd o).1
              have : (q.change o (q.joinS n) n).total = q.total + n := rfl
              show (q.change o (q.joinS n) n).value o ≤ _
              omega

theorem fair_take {q : QS} (h : q.Ok) (o n : Int) : Fair q (q.takeOp o n).2 (q.takeOp o n).1 false false true false o n := by
  have hok := QS.takeOp_ok h o n
  unfold QS.takeOp at hok ⊢
  split at hok
  · next h1 => rw [if_pos h1]; exact Fair.stay q (by simp) ..
  · next h1 =>
    rw [if_neg h1]
    split at hok
    · next h2 => rw [if_pos h2]; exact Fair.stay q (by simp) ..
    · next h2 =>
      rw [if_neg h2]
      split at hok
      · next h3 => rw [if_pos h3]; exact Fair.stay q (by simp) ..
      · next h3 =>
        rw [if_neg h3]
        obtain ⟨ho, hn, hn2⟩ := plookC_zero.1 (Decidable.not_not.1 h1)
        obtain ⟨_, hs1, hs2, hs3, hT, hA⟩ := h.take_bd (o := o) hn (by omega)
        replace hok : (q.change o (-upN n q.all q.total) (-n)).Ok := hok
        have hw : q.total * (q.all + -upN n q.all q.total) ≤ (q.total + -n) * q.all := by
          rw [Int.mul_add, Int.add_mul, Int.mul_neg, Int.neg_mul]
          have e1 : q.total * upN n q.all q.total = upN n q.all q.total * q.total := Int.mul_comm _ _
          omega
        refine ⟨fun hc => absurd rfl hc, fun _ k hk => h.other ho hok hw (fun e => hk ⟨e, rfl⟩), fun _ h => (by cases h), fun _ _ => ?_, fun h => (by cases h), fun _ _ => ⟨hn, hn2⟩⟩
        rcases h.mine ho hok hw with hm | hm
        · show (q.change o (-upN n q.all q.total) (-n)).value o ≤ _
          omega
        · exact absurd hm hA

theorem fair_leave {q : QS} (h : q.Ok) (o n : Int) : Fair q (q.leaveOp o).2.2 (q.leaveOp o).2.1 false false false false o n := by
  have hok := QS.leaveOp_ok h o
  unfold QS.leaveOp at hok ⊢
  split at hok
  · next h1 => rw [if_pos h1]; exact Fair.stay q (by simp) ..
  · next h1 =>
    rw [if_neg h1]
    split at hok
    · next h2 => rw [if_pos h2]; exact Fair.stay q (by simp) ..
    · next h2 =>
      rw [if_neg h2]
      have ho : ownB o = true := by simpa using h1
      have hat := h.at_bd o
      have hA : q.all ≠ 0 := by omega
      have hw : q.total * (q.all + -q.at o) ≤ (q.total + -q.value o) * q.all := by
        rw [Int.mul_add, Int.add_mul, Int.mul_neg, Int.neg_mul]
        have e1 : q.total * q.at o = q.at o * q.total := Int.mul_comm _ _
        have e2 : q.value o * q.all ≤ q.at o * q.total := by rw [h.value_eq hA]; exact Int.ediv_mul_le _ hA
        omega
      exact ⟨fun hc => absurd rfl hc, fun _ k hk => h.other ho hok hw (fun e => hk ⟨e, rfl⟩), fun _ h => (by cases h), fun _ h => (by cases h), fun h => (by cases h), fun _ h => (by rcases h with h | h <;> cases h)⟩

theorem value_same_shares {q : QS} (h : q.Ok) {t : Int} (hok : (QS.mk t q.all q.sh).Ok) (k : Int) : (q.total ≤ t → q.value k ≤ (QS.mk t q.all q.sh).value k) ∧ (t ≤ q.total → (QS.mk t q.all q.sh).value k ≤ q.value k) := by
  by_cases h0 : q.all = 0
  · rw [QS.Ok.value_nil h0, QS.Ok.value_nil (p := QS.mk t q.all q.sh) h0]; exact ⟨fun _ => Int.le_refl _, fun _ => Int.le_refl _⟩
  · have ha := h.all0
    have hb := h.at_bd k
    rw [h.value_eq h0, hok.value_eq (show (QS.mk t q.all q.sh).all ≠ 0 from h0)]
    have e : (QS.mk t q.all q.sh).at k = q.at k := rfl
    rw [e]
    show (q.total ≤ t → q.at k * q.total / q.all ≤ q.at k * t / q.all) ∧ (t ≤ q.total → q.at k * t / q.all ≤ q.at k * q.total / q.all)
    refine ⟨fun hle => ?_, fun hle => ?_⟩
    · exact Int.ediv_le_ediv (by omega) (Int.mul_le_mul_of_nonneg_left hle hb.1)
    · exact Int.ediv_le_ediv (by omega) (Int.mul_le_mul_of_nonneg_left hle hb.1)

theorem fair_add {q : QS} (h : q.Ok) (o n : Int) : Fair q (q.addOp n).2 (q.addOp n).1 false false false true o n := by
  have hok := QS.addOp_ok h n
  unfold QS.addOp at hok ⊢
  split at hok
  · next h1 => rw [if_pos h1]; exact Fair.stay q (by simp) ..
  · next h1 =>
    rw [if_neg h1]
    split at hok
    · next h2 => rw [if_pos h2]; exact Fair.stay q (by simp) ..
    · next h2 =>
      rw [if_neg h2]
      split at hok
      · next h3 => rw [if_pos h3]; exact Fair.stay q (by simp) ..
      · next h3 =>
        rw [if_neg h3]
        have hn := amtB_iff.1 (by simpa using h1)
        exact ⟨fun hc => absurd rfl hc, fun _ k _ => (value_same_shares h hok k).1 (by omega), fun _ h => (by cases h), fun _ h => (by cases h), fun h => (by cases h), fun _ h => (by rcases h with h | h <;> cases h)⟩

theorem fair_slash {q : QS} (h : q.Ok) (o n c : Int) (ad : Bool) : Fair q (q.slashOp c).2.2 (q.slashOp c).2.1 true false false ad o n := by
  have hok := QS.slashOp_ok h c
  unfold QS.slashOp at hok ⊢
  split at hok
  · next h1 => rw [if_pos h1]; exact Fair.stay q (by simp) ..
  · next h1 =>
    rw [if_neg h1]
    have hs := slash_bd h.t0 (show 0 ≤ c by omega) (by omega)
    exact ⟨fun hc => absurd rfl hc, fun h => (by cases h), fun _ h => (by cases h), fun _ h => (by cases h), fun _ k => (value_same_shares h hok k).2 (by omega), fun _ h => (by rcases h with h | h <;> cases h)⟩

/-- the first k values together -/
def QS.vsum (q : QS) : Nat → Int
  | 0 => 0
  | k + 1 => q.vsum k + q.value k
theorem QS.Ok.vsum_le {q : QS} (h : q.Ok) : q.vsum 6 ≤ q.total := by
  have := h.values_le
  simp only [QS.vsum]
  have e : ((0 : Nat) : Int) = 0 ∧ ((1 : Nat) : Int) = 1 ∧ ((2 : Nat) : Int) = 2 ∧ ((3 : Nat) : Int) = 3 ∧ ((4 : Nat) : Int) = 4 ∧ ((5 : Nat) : Int) = 5 := by simp
  rw [e.1, e.2.1, e.2.2.1, e.2.2.2.1, e.2.2.2.2.1, e.2.2.2.2.2]
  omega
theorem QS.Ok.vsum_bd {q : QS} (h : q.Ok) : ∀ k, 0 ≤ q.vsum k ∧ q.vsum k ≤ k * 1125899906842624
  | 0 => by simp [QS.vsum]
  | k + 1 => by
    have ih := QS.Ok.vsum_bd h k
    have hv := h.value_bd (k : Int)
    have ht := h.t1
    simp only [QS.vsum]
    have : ((k + 1 : Nat) : Int) * 1125899906842624 = k * 1125899906842624 + 1125899906842624 := by push_cast; rw [Int.add_mul]; simp
    omega

/-! ### who is alone in a pool -/

/-- owner o alone has all shares -/
structure QS.Alone (q : QS) (o : Int) : Prop where
  ok : q.Ok
  own : ownB o = true
  is : q.at o = q.all
  pos : 0 < q.all
theorem QS.Alone.value {q : QS} {o : Int} (h : q.Alone o) : q.value o = q.total := by
  have hp := h.pos
  rw [h.ok.value_eq (by omega), h.is, Int.mul_ediv_cancel_left _ (by omega)]

theorem alone_add {q : QS} {o : Int} (h : q.Alone o) (n : Int) : (q.addOp n).2.Alone o := by
  have hok := QS.addOp_ok h.ok n
  have e : (q.addOp n).2.all = q.all ∧ (q.addOp n).2.sh = q.sh := by unfold QS.addOp; repeat' split
                                                                     all_goals exact ⟨rfl, rfl⟩
  have e2 : (q.addOp n).2.at o = q.at o := by unfold QS.at; rw [e.2]
  exact ⟨hok, h.own, by rw [e2, e.1]; exact h.is, by rw [e.1]; exact h.pos⟩
theorem alone_slash {q : QS} {o : Int} (h : q.Alone o) (n : Int) : (q.slashOp n).2.2.Alone o := by
  have hok := QS.slashOp_ok h.ok n
  have e : (q.slashOp n).2.2.all = q.all ∧ (q.slashOp n).2.2.sh = q.sh := by unfold QS.slashOp; repeat' split
                                                                             all_goals exact ⟨rfl, rfl⟩
  have e2 : (q.slashOp n).2.2.at o = q.at o := by unfold QS.at; rw [e.2]
  exact ⟨hok, h.own, by rw [e2, e.1]; exact h.is, by rw [e.1]; exact h.pos⟩

/-- the first one who joins an empty pool is alone in it -/
theorem alone_first {o n : Int} (ho : ownB o = true) (h1 : 1 ≤ n) (h2 : n ≤ 1125899906842624) : (QS.new.joinOp o n).1 = 0 ∧ (QS.new.joinOp o n).2.Alone o ∧ (QS.new.joinOp o n).2.total = n := by
  have hok := QS.joinOp_ok QS.new_ok o n
  have e : QS.new.joinOp o n = (0, QS.new.change o n n) := by
    unfold QS.joinOp
    rw [if_neg (by rw [Decidable.not_not]; exact plookC_zero.2 ⟨ho, h1, h2⟩), if_neg (by simp [QS.new])]
    have ej : QS.new.joinS n = n := by unfold QS.joinS; rw [if_neg (by simp [QS.new])]
    have ec : QS.new.joinC n = 0 := by unfold QS.joinC; rw [if_neg (by simp [QS.new])]
    rw [if_neg (by rw [ec]; simp), ej, if_neg (by simp [QS.new]; omega), if_neg (by omega)]
  rw [e] at hok ⊢
  have h0 : QS.new.at o = 0 := by unfold QS.at QS.new; rw [if_pos ho]; obtain ⟨a, b⟩ := ownB_iff.1 ho; obtain ⟨k, rfl⟩ := Int.eq_ofNat_of_zero_le a; match k, b with | 0, _ => rfl | 1, _ => rfl | 2, _ => rfl | 3, _ => rfl | 4, _ => rfl | 5, _ => rfl
  refine ⟨rfl, ⟨hok, ho, ?_, ?_⟩, ?_⟩
  · show (QS.new.change o n n).at o = QS.new.all + n
    rw [QS.at_change QS.new_ok ho, if_pos rfl, h0]; rfl
  · show 0 < QS.new.all + n
    simp [QS.new]; omega
  · show QS.new.total + n = n
    simp [QS.new]

/-- one alone in the pool, another one joins: what holds then -/
structure TwoIn (q : QS) (o p : Int) (other : Int) (q1 : QS) : Prop where
  ok : q1.Ok
  zero : q1.at p ≠ 0
  keeps : q.value o ≤ q1.value o
  most : q1.value p ≤ other
  total : q1.total = q.total + other

theorem alone_join {q : QS} {o p : Int} (h : q.Alone o) (hp : ownB p = true) (hop : o ≠ p) (hz : q.at p = 0) (n : Int) (hc : (q.joinOp p n).1 = 0) : TwoIn q o p n (q.joinOp p n).2 := by
  have hok := QS.joinOp_ok h.ok p n
  have hf := fair_join h.ok p n
  have hk := hf.others rfl o (fun e => hop e.1)
  unfold QS.joinOp at hc hok hk ⊢
  split at hc
  · cases hc
  · next h1 =>
    rw [if_neg h1] at hok hk ⊢
    split at hc
    · cases hc
    · next h2 =>
      rw [if_neg h2] at hok hk ⊢
      split at hc
      · cases hc
      · next h3 =>
        rw [if_neg h3] at hok hk ⊢
        split at hc
        · cases hc
        · next h4 =>
          rw [if_neg h4] at hok hk ⊢
          split at hc
          · cases hc
          · next h5 =>
            rw [if_neg h5] at hok hk ⊢
            obtain ⟨_, hn, _⟩ := plookC_zero.1 (Decidable.not_not.1 h1)
            have hb := h.ok.joinS_bd hn (Decidable.not_not.1 h3) h2
            have hat : (q.change p (q.joinS n) n).at p = q.joinS n := by rw [QS.at_change h.ok hp, if_pos rfl, hz]; omega
            have hpos := h.pos
            have hA : (q.change p (q.joinS n) n).all = q.all + q.joinS n := rfl
            have hT : (q.change p (q.joinS n) n).total = q.total + n := rfl
            refine ⟨hok, by show (q.change p (q.joinS n) n).at p ≠ 0; rw [hat]; exact h5, hk, ?_, rfl⟩
            show (q.change p (q.joinS n) n).value p ≤ n
            rw [hok.value_eq (by rw [hA]; omega), hat, hA, hT]
            refine Int.ediv_le_of_le_mul (by omega) ?_
            rw [Int.mul_add, Int.mul_add]
            have : q.joinS n * n = n * q.joinS n := Int.mul_comm _ _
            omega

theorem two_le_sum {l : List Int} (h : ∀ x ∈ l, 0 ≤ x) {i j : Nat} (hij : i ≠ j) : l.getD i 0 + l.getD j 0 ≤ l.sum := by
  by_cases hi : i < l.length
  · have h1 : ∀ x ∈ l.set i 0, 0 ≤ x := fun x hx => by
      rcases List.mem_or_eq_of_mem_set hx with hx | hx
      · exact h x hx
      · omega
    have h2 := sum_le_of_nonneg h1 j
    rw [sum_set _ _ _ hi] at h2
    have e : (l.set i 0).getD j 0 = l.getD j 0 := by simp [List.getD_eq_getElem?_getD, List.getElem?_set, hij]
    rw [e] at h2; omega
  · have e : l.getD i 0 = 0 := by simp [List.getD_eq_getElem?_getD, List.getElem?_eq_none (show l.length ≤ i by omega)]
    have := sum_le_of_nonneg h j
    omega

theorem alone_zero {q : QS} {o p : Int} (h : q.Alone o) (hp : ownB p = true) (hop : o ≠ p) : q.at p = 0 := by
  obtain ⟨o0, o1⟩ := ownB_iff.1 h.own
  obtain ⟨p0, p1⟩ := ownB_iff.1 hp
  have h1 := two_le_sum h.ok.pos (show o.toNat ≠ p.toNat by omega)
  rw [h.ok.sumIs, ← QS.at_own h.own, ← QS.at_own hp, h.is] at h1
  have := (h.ok.at_bd p).1
  omega

theorem joinOp_zero {q : QS} {o n : Int} (hc : (q.joinOp o n).1 = 0) : (q.joinOp o n).2 = q.change o (q.joinS n) n ∧ 0 ≠ q.joinS n := by
  unfold QS.joinOp at hc ⊢
  split at hc
  · cases hc
  · next h1 =>
    rw [if_neg h1]
    split at hc
    · cases hc
    · next h2 =>
      rw [if_neg h2]
      split at hc
      · cases hc
      · next h3 =>
        rw [if_neg h3]
        split at hc
        · cases hc
        · next h4 =>
          rw [if_neg h4]
          split at hc
          · cases hc
          · next h5 => rw [if_neg h5]; exact ⟨rfl, fun e => h5 e.symm⟩
theorem joinOp_stays {q : QS} {o n : Int} (hc : (q.joinOp o n).1 ≠ 0) : (q.joinOp o n).2 = q := by
  unfold QS.joinOp at hc ⊢
  repeat' split
  all_goals first | rfl | (exfalso; apply hc; simp_all)

/-- who joined beside one that was alone, and leaves at once -/
theorem alone_back {q : QS} {o p n : Int} (h : q.Alone o) (hp : ownB p = true) (hop : o ≠ p) (hc : (q.joinOp p n).1 = 0) :
    ∃ v q2, (q.joinOp p n).2.leaveOp p = (v, 0, q2) ∧ v ≤ n ∧ q2.total = q.total + n - v ∧ q.total ≤ q2.value o ∧ q2.Alone o := by
  have hz := alone_zero h hp hop
  have T := alone_join h hp hop hz n hc
  obtain ⟨e1, _⟩ := joinOp_zero hc
  obtain ⟨q1, hq1⟩ : ∃ q1, q1 = (q.joinOp p n).2 := ⟨_, rfl⟩
  rw [← hq1] at T e1 ⊢
  have hl : q1.leaveOp p = (q1.value p, 0, q1.change p (-q1.at p) (-q1.value p)) := by
    unfold QS.leaveOp; rw [if_neg (by rw [hp]; simp), if_neg T.zero]
  have hf := (fair_leave T.ok p n).others rfl o (fun e => hop e.1)
  have hok := QS.leaveOp_ok T.ok p
  rw [hl] at hf hok
  refine ⟨_, _, hl, T.most, ?_, ?_, hok, h.own, ?_, ?_⟩
  · show q1.total + -q1.value p = _
    rw [T.total]; omega
  · have := T.keeps; rw [h.value] at this
    exact Int.le_trans this hf
  · show (q1.change p (-q1.at p) (-q1.value p)).at o = q1.all + -q1.at p
    rw [QS.at_change T.ok hp, if_neg hop, e1, QS.at_change h.ok hp, if_neg hop, QS.at_change h.ok hp, if_pos rfl, hz, h.is]
    show q.all = q.all + q.joinS n + -(0 + q.joinS n)
    omega
  · show 0 < q1.all + -q1.at p
    rw [e1, QS.at_change h.ok hp, if_pos rfl, hz]
    have := h.pos
    show 0 < q.all + q.joinS n + -(0 + q.joinS n)
    omega

/-- who is alone leaves -/
theorem alone_end {q : QS} {o : Int} (h : q.Alone o) : ∃ q2, q.leaveOp o = (q.total, 0, q2) ∧ q2.total = 0 ∧ q2.all = 0 := by
  have hp := h.pos
  refine ⟨q.change o (-q.at o) (-q.value o), ?_, ?_, ?_⟩
  · unfold QS.leaveOp; rw [if_neg (by rw [h.own]; simp), if_neg (by rw [h.is]; omega), h.value]
  · show q.total + -q.value o = 0
    rw [h.value]; omega
  · show q.all + -q.at o = 0
    rw [h.is]; omega
end Go.Proofs.YtajnfkmkombajacDoor
