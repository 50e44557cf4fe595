/- Plain facts on Knuth's division of two digits by one (math/bits.Div64), on natural numbers. No program in sight. -/
import Derived.WalkKit
import Derived.Lib.BitFns
set_option linter.unusedVariables false
set_option linter.unusedSimpArgs false
namespace Go.Proofs.YtajnfkmkombajacDoor
open Go.RowKit

/-- 2^32 -/
def B32 : Nat := 4294967296
theorem B32_eq : B32 = 4294967296 := rfl

/-- What one digit's estimate keeps: at most one too great at the beginning; never too small. -/
structure KInv (y1 y0 u u1 q r : Nat) : Prop where
  sum : q * y1 + r = u
  ge : (u * B32 + u1) / (y1 * B32 + y0) ≤ q
  le : q ≤ B32 + 1

theorem k_start {y1 y0 u u1 : Nat} (h1 : 2147483648 ≤ y1) (h0 : y0 < B32) (hu : u < y1 * B32 + y0) (hu1 : u1 < B32) : KInv y1 y0 u u1 (u / y1) (u % y1) := by
  have hpos : 0 < y1 := by omega
  refine ⟨by rw [Nat.mul_comm]; exact Nat.div_add_mod u y1, ?_, ?_⟩
  · -- (u B + u1) / (y1 B + y0) ≤ (u B + u1) / (y1 B) = u / y1
    have hB : (0 : Nat) < B32 := by decide
    have e1 : (u * B32 + u1) / (y1 * B32) = u / y1 := by
      rw [Nat.mul_comm y1 B32, ← Nat.div_div_eq_div_mul, Nat.mul_comm u B32, Nat.mul_add_div hB, Nat.div_eq_of_lt hu1, Nat.add_zero]
    rw [← e1]
    exact Nat.div_le_div_left (Nat.le_add_right _ _) (Nat.mul_pos hpos hB)
  · have : u / y1 < B32 + 2 := by
      rw [Nat.div_lt_iff_lt_mul hpos]
      have e : (B32 + 2) * y1 = y1 * B32 + 2 * y1 := by rw [Nat.add_mul, Nat.mul_comm B32 y1]
      rw [e]
      have : y0 < 2 * y1 := by unfold B32 at h0; omega
      omega
    omega

theorem k_q_lt {y1 y0 u u1 : Nat} (hpos : 0 < y1 * B32 + y0) (hu : u < y1 * B32 + y0) (hu1 : u1 < B32) : (u * B32 + u1) / (y1 * B32 + y0) < B32 := by
  rw [Nat.div_lt_iff_lt_mul hpos]
  have : (u + 1) * B32 ≤ (y1 * B32 + y0) * B32 := Nat.mul_le_mul_right _ hu
  rw [Nat.add_mul] at this
  rw [Nat.mul_comm B32]
  omega

theorem k_mul {y1 y0 u q r : Nat} (h : q * y1 + r = u) : q * (y1 * B32 + y0) + r * B32 = u * B32 + q * y0 := by
  rw [Nat.mul_add, ← h, Nat.add_mul, Nat.mul_assoc]; omega

/-- the test says yes: one less is still not too small -/
theorem k_step {y1 y0 u u1 q r : Nat} (h1 : 2147483648 ≤ y1) (hu : u < y1 * B32 + y0) (hu1 : u1 < B32) (I : KInv y1 y0 u u1 q r) (ht : B32 ≤ q ∨ B32 * r + u1 < q * y0) : 1 ≤ q ∧ KInv y1 y0 u u1 (q - 1) (r + y1) ∧ q - 1 ≤ B32 := by
  have hpos : 0 < y1 * B32 + y0 := by unfold B32; omega
  have hlt : (u * B32 + u1) / (y1 * B32 + y0) < q := by
    rcases ht with ht | ht
    · exact Nat.lt_of_lt_of_le (k_q_lt hpos hu hu1) ht
    · rw [Nat.div_lt_iff_lt_mul hpos]
      have := k_mul (y0 := y0) I.sum
      rw [Nat.mul_comm r B32] at this
      omega
  have hq : 1 ≤ q := Nat.lt_of_le_of_lt (Nat.zero_le _) hlt
  have hle := I.le
  refine ⟨hq, ⟨?_, Nat.le_sub_one_of_lt hlt, by omega⟩, by omega⟩
  have := I.sum
  rw [Nat.sub_mul, Nat.one_mul]
  have : y1 ≤ q * y1 := Nat.le_mul_of_pos_left y1 hq
  omega

/-- the test says no: it is the digit -/
theorem k_end {y1 y0 u u1 q r : Nat} (hpos : 0 < y1 * B32 + y0) (I : KInv y1 y0 u u1 q r) (h : q * y0 ≤ B32 * r + u1) : q = (u * B32 + u1) / (y1 * B32 + y0) := by
  refine Nat.le_antisymm ?_ I.ge
  rw [Nat.le_div_iff_mul_le hpos]
  have := k_mul (y0 := y0) I.sum
  rw [Nat.mul_comm r B32] at this
  omega

/-- the rest is great: it is the digit -/
theorem k_break {y1 y0 u u1 q r : Nat} (hpos : 0 < y1 * B32 + y0) (h0 : y0 < B32) (hq : q ≤ B32) (hr : B32 ≤ r) (I : KInv y1 y0 u u1 q r) : q = (u * B32 + u1) / (y1 * B32 + y0) := by
  refine k_end hpos I ?_
  have a : q * y0 ≤ B32 * B32 := Nat.mul_le_mul hq (Nat.le_of_lt h0)
  have b : B32 * B32 ≤ B32 * r := Nat.mul_le_mul_left _ hr
  omega

/-- two digits one after the other are the quotient -/
theorem k_two {y u u1 u0 : Nat} (hy : 0 < y) :
    (u * B32 + u1) / y * B32 + ((u * B32 + u1) % y * B32 + u0) / y = ((u * B32 + u1) * B32 + u0) / y ∧ ((u * B32 + u1) % y * B32 + u0) % y = ((u * B32 + u1) * B32 + u0) % y := by
  generalize u * B32 + u1 = v
  have e : v * B32 + u0 = v / y * B32 * y + (v % y * B32 + u0) := by
    have h2 : v * B32 = (v / y * y + v % y) * B32 := by rw [Nat.div_add_mod']
    rw [h2, Nat.add_mul, Nat.mul_right_comm]
    omega
  constructor
  · rw [e, Nat.add_comm (v / y * B32 * y), Nat.add_mul_div_right _ _ hy, Nat.add_comm]
  · rw [e, Nat.add_comm (v / y * B32 * y), Nat.add_mul_mod_self_right]
theorem bitLen_bounds : ∀ (n x : Nat), x < 2 ^ n → n ≤ 64 → x ≠ 0 → x < 2 ^ Lib.bitLen x ∧ 2 ^ Lib.bitLen x ≤ 2 * x ∧ 1 ≤ Lib.bitLen x ∧ Lib.bitLen x ≤ n := by
  intro n
  induction n with
  | zero => intro x h _ h0; omega
  | succ n ih =>
    intro x h hn h0
    have h64 : x < 2 ^ 64 := Nat.lt_of_lt_of_le h (Nat.pow_le_pow_right (by decide) hn)
    rw [Lib.bitLen_half x h0 h64]
    by_cases h1 : x / 2 = 0
    · have : x = 1 := by omega
      subst this
      exact ⟨by decide, by decide, by decide, by have : Lib.bitLen (1 / 2) = 0 := by decide
                                                 omega⟩
    · obtain ⟨a, b, c, d⟩ := ih (x / 2) (by rw [Nat.pow_succ] at h; omega) (by omega) h1
      rw [Nat.add_comm 1, Nat.pow_succ]
      exact ⟨by omega, by omega, by omega, by omega⟩

/-- What the digits of hi, lo over y are, s places up: the numbers that math/bits.Div64 reckons ahead of its loops. -/
structure DivPrep (hi lo y s Y y1 y0 h' l' u t u1 u0 : Nat) : Prop where
  a1 : IntKind.u64.wrap ((y : Int) * 2 ^ s) = (Y : Int)
  a2 : (Y : Int) / 4294967296 = (y1 : Int)
  a3 : bits BinOp.and IntKind.u64 (Y : Int) 4294967295 = (y0 : Int)
  a4 : IntKind.u64.wrap ((hi : Int) * 2 ^ s) = (h' : Int)
  a5 : (lo : Int) / 2 ^ (64 - s) = (l' : Int)
  a6 : bits BinOp.or IntKind.u64 (h' : Int) (l' : Int) = (u : Int)
  a7 : IntKind.u64.wrap ((lo : Int) * 2 ^ s) = (t : Int)
  a8 : (t : Int) / 4294967296 = (u1 : Int)
  a9 : bits BinOp.and IntKind.u64 (t : Int) 4294967295 = (u0 : Int)
  y0lt : y0 < B32
  y1ge : 2147483648 ≤ y1
  y1lt : y1 < B32
  Yeq : Y = y1 * B32 + y0
  ult : u < Y
  u1lt : u1 < B32
  u0lt : u0 < B32
  Ys : Y = y * 2 ^ s
  all : (u * B32 + u1) * B32 + u0 = (hi * 18446744073709551616 + lo) * 2 ^ s

theorem and32 (x : Nat) (hx : x < 18446744073709551616) : bits BinOp.and IntKind.u64 (x : Int) 4294967295 = ((x % B32 : Nat) : Int) := by
  have h := bits_mask .u64 64 (by decide) (fun n h0 h1 => by rw [IntKind.wrap_u64]; omega) 32 (by decide) (x : Int) (by omega) (by omega)
  have e : ((x % B32 : Nat) : Int) = (x : Int) % 2 ^ 32 := by unfold B32; omega
  rw [e]; exact h

theorem wrap_nat (x : Nat) (hx : x < 18446744073709551616) : IntKind.u64.wrap (x : Int) = (x : Int) := by rw [IntKind.wrap_u64]; omega

theorem div_prep (hi lo y s : Nat) (hs : Lib.bitLen y + s = 64) (hlo : lo < 18446744073709551616) (hy : hi < y) (hyM : y ≤ 1125899906842624) :
    DivPrep hi lo y s (y * 2 ^ s) (y * 2 ^ s / B32) (y * 2 ^ s % B32) (hi * 2 ^ s) (lo / 2 ^ (64 - s)) (hi * 2 ^ s + lo / 2 ^ (64 - s)) (lo % 2 ^ (64 - s) * 2 ^ s) (lo % 2 ^ (64 - s) * 2 ^ s / B32) (lo % 2 ^ (64 - s) * 2 ^ s % B32) := by
  obtain ⟨b1, b2, b3, b4⟩ := bitLen_bounds 51 y (by omega) (by decide) (by omega)
  have hcd : 2 ^ (64 - s) * 2 ^ s = 18446744073709551616 := by rw [← Nat.pow_add, Nat.sub_add_cancel (by omega)]
  have hdl : 2 ^ Lib.bitLen y = 2 ^ (64 - s) := by rw [show Lib.bitLen y = 64 - s by omega]
  rw [hdl] at b1 b2
  have hc : 0 < 2 ^ s := Nat.pow_pos (by decide)
  have hd : 0 < 2 ^ (64 - s) := Nat.pow_pos (by decide)
  have hcast : ((2 : Int) ^ s) = ((2 ^ s : Nat) : Int) := by rw [Int.natCast_pow]; rfl
  have hdast : ((2 : Int) ^ (64 - s)) = ((2 ^ (64 - s) : Nat) : Int) := by rw [Int.natCast_pow]; rfl
  have hp2 : (2 : Nat) ^ s = 2 ^ s := rfl
  generalize hcv : 2 ^ s = c at *
  generalize hdv : 2 ^ (64 - s) = d at *
  have hYlt : y * c < 18446744073709551616 := by rw [← hcd]; exact Nat.mul_lt_mul_of_pos_right b1 hc
  have hYge : 9223372036854775808 ≤ y * c := by
    have : d * c ≤ 2 * y * c := Nat.mul_le_mul_right _ b2
    rw [hcd, Nat.mul_assoc] at this; omega
  have hhc : hi * c + c ≤ y * c := by
    have : (hi + 1) * c ≤ y * c := Nat.mul_le_mul_right _ hy
    rw [Nat.add_mul, Nat.one_mul] at this; exact this
  have hl : lo / d < c := by rw [Nat.div_lt_iff_lt_mul hd, Nat.mul_comm, hcd]; exact hlo
  have hm : lo % d < d := Nat.mod_lt _ hd
  have ht : lo % d * c < 18446744073709551616 := by rw [← hcd]; exact Nat.mul_lt_mul_of_pos_right hm hc
  have hdm : lo / d * d + lo % d = lo := Nat.div_add_mod' lo d
  have hlc : lo * c = lo / d * 18446744073709551616 + lo % d * c := by
    have : lo * c = (lo / d * d + lo % d) * c := by rw [hdm]
    rw [this, Nat.add_mul, Nat.mul_assoc, hcd]
  refine ⟨?_, ?_, and32 _ hYlt, ?_, ?_, ?_, ?_, ?_, and32 _ ht, Nat.mod_lt _ (by decide), ?_, ?_, ?_, by omega, ?_, Nat.mod_lt _ (by decide), by rw [hcv], ?_⟩
  · rw [hcast, ← Int.natCast_mul]; exact wrap_nat _ hYlt
  · unfold B32; omega
  · rw [hcast, ← Int.natCast_mul]; exact wrap_nat _ (by omega)
  · rw [hdast, ← Int.natCast_ediv]
  · have hor : hi * c + lo / d = hi * c ||| lo / d := by
      rw [Nat.mul_comm hi, ← hcv]
      exact Nat.two_pow_add_eq_or_of_lt (by rw [hcv]; exact hl) hi
    have := bits_nat .u64 64 (by decide) (fun n h0 h1 => by rw [IntKind.wrap_u64]; omega) (hi * c) (lo / d) (by omega) (by omega)
    rw [this.2, hor]
  · rw [hcast, ← Int.natCast_mul, IntKind.wrap_u64, hlc]; omega
  · unfold B32; omega
  · unfold B32; omega
  · unfold B32; omega
  · unfold B32; omega
  · unfold B32; omega
  · have e : (hi * c + lo / d) * B32 * B32 + lo % d * c = (hi * 18446744073709551616 + lo) * c := by
      rw [Nat.add_mul (hi * 18446744073709551616), hlc, Nat.mul_right_comm hi, Nat.mul_assoc (hi * c + lo / d)]
      rw [show B32 * B32 = 18446744073709551616 from by decide, Nat.add_mul]; omega
    rw [hcv, ← e]
    have := Nat.div_add_mod' (lo % d * c) B32
    rw [Nat.add_mul]; omega
theorem u64_mul' (a b : Nat) (h : a * b < 18446744073709551616) : IntKind.u64.wrap ((a : Int) * (b : Int)) = (a : Int) * (b : Int) := by
  rw [← Int.natCast_mul]; exact wrap_nat _ h
theorem cast_lt {q y0 r u1 : Nat} (h : (4294967296 : Int) * (r : Int) + (u1 : Int) < (q : Int) * (y0 : Int)) : B32 * r + u1 < q * y0 := by
  rw [← Int.natCast_mul] at h; unfold B32; omega
theorem cast_le {q y0 r u1 : Nat} (h : ¬ (4294967296 : Int) * (r : Int) + (u1 : Int) < (q : Int) * (y0 : Int)) : q * y0 ≤ B32 * r + u1 := by
  rw [← Int.natCast_mul] at h; unfold B32; omega
/-- their measure -/
def kmeas (a : Value) : Nat := (intOf a).toNat
theorem kmeas_lt {q : Nat} (h : 1 ≤ (q : Int)) : kmeas (.int .u64 ((q : Int) - 1)) < kmeas (.int .u64 q) := by
  unfold kmeas; simp only [intOf]; omega
/-- the relation of the two loops -/
def KRel (y1 y0 u u1 : Nat) (a b : Value) : Prop := ∃ q r : Nat, KInv y1 y0 u u1 q r ∧ (r : Int) < 4294967296 ∧ a = .int .u64 q ∧ b = .int .u64 r

theorem u64_mul (a b : Nat) (h : a * b < 18446744073709551616) : IntKind.u64.wrap ((a : Int) * (b : Int)) = ((a * b : Nat) : Int) := by
  rw [← Int.natCast_mul]; exact wrap_nat _ h
theorem krel_next {y1 y0 u u1 q r : Nat} (I : KInv y1 y0 u u1 (q - 1) (r + y1)) (h : ¬ (4294967296 : Int) ≤ (r : Int) + (y1 : Int)) (hq : 1 ≤ (q : Int)) :
    KRel y1 y0 u u1 (.int .u64 ((q : Int) - 1)) (.int .u64 ((r : Int) + (y1 : Int))) ∧ kmeas (.int .u64 ((q : Int) - 1)) < kmeas (.int .u64 q) :=
  ⟨⟨q - 1, r + y1, I, by omega, by congr 1; omega, by congr 1⟩, kmeas_lt hq⟩

/-- what is left of a digit's round, out of the numbers that have gone round -/
theorem u64_left (u u1 q Y : Nat) (hY : Y < 18446744073709551616) (hY0 : 0 < Y) (hq : q = (u * B32 + u1) / Y) :
    IntKind.u64.wrap (IntKind.u64.wrap (IntKind.u64.wrap ((u : Int) * 4294967296) + (u1 : Int)) - IntKind.u64.wrap ((q : Int) * (Y : Int))) = (((u * B32 + u1) % Y : Nat) : Int) := by
  have h1 := Nat.div_add_mod' (u * B32 + u1) Y
  rw [← hq] at h1
  have h2 : (u * B32 + u1) % Y < Y := Nat.mod_lt _ hY0
  generalize (u * B32 + u1) % Y = r at *
  simp only [IntKind.wrap_u64]
  rw [← Int.natCast_mul]
  generalize q * Y = p at *
  unfold B32 at h1
  omega

theorem u64_quo (u y1 : Nat) (hu : u < 18446744073709551616) : IntKind.u64.wrap ((u : Int) / (y1 : Int)) = ((u / y1 : Nat) : Int) := by
  rw [← Int.natCast_ediv]; exact wrap_nat _ (Nat.lt_of_le_of_lt (Nat.div_le_self _ _) hu)

theorem u64_rem (u y1 : Nat) (hu : u < 18446744073709551616) : IntKind.u64.wrap ((u : Int) - IntKind.u64.wrap (((u / y1 : Nat) : Int) * (y1 : Int))) = ((u % y1 : Nat) : Int) := by
  have h1 := Nat.div_add_mod' u y1
  rw [u64_mul _ _ (by omega)]
  generalize u / y1 * y1 = p at *
  rw [IntKind.wrap_u64]; omega
/-- what comes of the two digits -/
theorem div_fin {hi lo y s Y y1 y0 h' l' u t u1 u0 Q u21 Q2 R : Nat} (D : DivPrep hi lo y s Y y1 y0 h' l' u t u1 u0) (hy : 0 < Y) (hQ : Q = (u * B32 + u1) / Y) (h21 : u21 = (u * B32 + u1) % Y) (hQ2 : Q2 = (u21 * B32 + u0) / Y) (hR : R = (u21 * B32 + u0) % Y) :
    (Q : Int) * 4294967296 + (Q2 : Int) = (((hi * 18446744073709551616 + lo) / y : Nat) : Int) ∧ (R : Int) / 2 ^ s = (((hi * 18446744073709551616 + lo) % y : Nat) : Int) := by
  obtain ⟨k1, k2⟩ := k_two (y := Y) (u := u) (u1 := u1) (u0 := u0) hy
  rw [← h21] at k1 k2
  rw [← hQ, ← hQ2, D.all, D.Ys] at k1
  rw [← hR, D.all, D.Ys] at k2
  have hc : 0 < 2 ^ s := Nat.pow_pos (by decide)
  rw [Nat.mul_div_mul_right _ _ hc] at k1
  rw [Nat.mul_mod_mul_right] at k2
  constructor
  · rw [← k1]; unfold B32; omega
  · have hcast : ((2 : Int) ^ s) = ((2 ^ s : Nat) : Int) := by rw [Int.natCast_pow]; rfl
    rw [k2, hcast, ← Int.natCast_ediv, Nat.mul_div_cancel _ hc]
end Go.Proofs.YtajnfkmkombajacDoor
