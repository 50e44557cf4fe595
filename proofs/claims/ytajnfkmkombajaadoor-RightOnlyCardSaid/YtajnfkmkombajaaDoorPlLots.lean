/- Plain facts on the numbers of package lots: what one lot is, that lots of one seed differ, and that mixing in two steps is mixing. No program in sight. -/
import Derived.WalkKit
set_option linter.unusedVariables false
set_option linter.unusedSimpArgs false
namespace Go.Proofs.YtajnfkmkombajaaDoor
open Go.RowKit

/-- the state, one lot on -/
def lotAdv (s : Int) : Int := IntKind.u64.wrap (s + 11400714819323198485)
/-- the three steps of a lot -/
def lotA (z : Int) : Int := IntKind.u64.wrap (bits BinOp.xor IntKind.u64 z (z / 1073741824) * 13787848793156543929)
def lotB (z : Int) : Int := IntKind.u64.wrap (bits BinOp.xor IntKind.u64 z (z / 134217728) * 10723151780598845931)
def lotC (z : Int) : Int := bits BinOp.xor IntKind.u64 z (z / 2147483648)
/-- the lot of a state -/
def lotOut (z : Int) : Int := lotC (lotB (lotA z))

def natA (z : Nat) : Nat := (z ^^^ z / 1073741824) * 13787848793156543929 % 18446744073709551616
def natB (z : Nat) : Nat := (z ^^^ z / 134217728) * 10723151780598845931 % 18446744073709551616
def natC (z : Nat) : Nat := z ^^^ z / 2147483648
theorem lotA_nat (z : Nat) (h : z < 18446744073709551616) : lotA (z : Int) = (natA z : Int) := mixStep_u64 z 1073741824 13787848793156543929 h
theorem lotB_nat (z : Nat) (h : z < 18446744073709551616) : lotB (z : Int) = (natB z : Int) := mixStep_u64 z 134217728 10723151780598845931 h
theorem lotC_nat (z : Nat) (h : z < 18446744073709551616) : lotC (z : Int) = (natC z : Int) := xorShift_u64 z 2147483648 h
theorem natA_lt (z : Nat) : natA z < 18446744073709551616 := Nat.mod_lt _ (by decide)
theorem natB_lt (z : Nat) : natB z < 18446744073709551616 := Nat.mod_lt _ (by decide)

def lotN (z : Nat) : Nat := natC (natB (natA z))
theorem lotOut_nat (z : Nat) (h : z < 18446744073709551616) : lotOut (z : Int) = (lotN z : Int) := by
  unfold lotOut lotN
  rw [lotA_nat z h, lotB_nat _ (natA_lt z), lotC_nat _ (natB_lt _)]

theorem xorshift_inj (k : Nat) (hk : 0 < k) {x y : Nat} (hx : x < 2 ^ 64) (hy : y < 2 ^ 64) (h : x ^^^ x / 2 ^ k = y ^^^ y / 2 ^ k) : x = y := by
  have key : ∀ n i, 64 ≤ i + n → x.testBit i = y.testBit i := by
    intro n
    induction n with
    | zero =>
      intro i hi
      rw [Nat.testBit_lt_two_pow (Nat.lt_of_lt_of_le hx (Nat.pow_le_pow_right (by decide) (by omega))), Nat.testBit_lt_two_pow (Nat.lt_of_lt_of_le hy (Nat.pow_le_pow_right (by decide) (by omega)))]
    | succ n ih =>
      intro i hi
      have h1 := congrArg (fun t => Nat.testBit t i) h
      simp only [Nat.testBit_xor, Nat.testBit_div_two_pow] at h1
      have h2 := ih (i + k) (by omega)
      rw [h2] at h1
      simpa using h1
  exact Nat.eq_of_testBit_eq fun i => key 64 i (by omega)

theorem mulmod_inj (c d m : Nat) (hcd : c * d % m = 1 % m) {x y : Nat} (hx : x < m) (hy : y < m) (h : x * c % m = y * c % m) : x = y := by
  have e : ∀ z, z < m → (z * c % m) * d % m = z := by
    intro z hz
    rw [Nat.mod_mul_mod, Nat.mul_assoc, Nat.mul_mod, hcd, ← Nat.mul_mod, Nat.mul_one, Nat.mod_eq_of_lt hz]
  rw [← e x hx, ← e y hy, h]

theorem p64 : (2 : Nat) ^ 64 = 18446744073709551616 := by decide
theorem p30 : (2 : Nat) ^ 30 = 1073741824 := by decide
theorem p27 : (2 : Nat) ^ 27 = 134217728 := by decide
theorem p31 : (2 : Nat) ^ 31 = 2147483648 := by decide
theorem xor_lt (z k : Nat) (hz : z < 18446744073709551616) : z ^^^ z / k < 18446744073709551616 := by
  rw [← p64] at *
  exact Nat.xor_lt_two_pow hz (Nat.lt_of_le_of_lt (Nat.div_le_self _ _) hz)
theorem inv1 : (13787848793156543929 : Nat) * 10871156337175269513 % 18446744073709551616 = 1 % 18446744073709551616 := by decide
theorem inv2 : (10723151780598845931 : Nat) * 3573116690164977347 % 18446744073709551616 = 1 % 18446744073709551616 := by decide
theorem natA_inj {x y : Nat} (hx : x < 18446744073709551616) (hy : y < 18446744073709551616) (h : natA x = natA y) : x = y :=
  xorshift_inj 30 (by decide) (by rw [p64]; exact hx) (by rw [p64]; exact hy) (by rw [p30]; exact mulmod_inj _ _ _ inv1 (xor_lt _ _ hx) (xor_lt _ _ hy) h)
theorem natB_inj {x y : Nat} (hx : x < 18446744073709551616) (hy : y < 18446744073709551616) (h : natB x = natB y) : x = y :=
  xorshift_inj 27 (by decide) (by rw [p64]; exact hx) (by rw [p64]; exact hy) (by rw [p27]; exact mulmod_inj _ _ _ inv2 (xor_lt _ _ hx) (xor_lt _ _ hy) h)
theorem natC_inj {x y : Nat} (hx : x < 18446744073709551616) (hy : y < 18446744073709551616) (h : natC x = natC y) : x = y :=
  xorshift_inj 31 (by decide) (by rw [p64]; exact hx) (by rw [p64]; exact hy) (by rw [p31]; exact h)
theorem lotN_inj {x y : Nat} (hx : x < 18446744073709551616) (hy : y < 18446744073709551616) (h : lotN x = lotN y) : x = y :=
  natA_inj hx hy (natB_inj (natA_lt _) (natA_lt _) (natC_inj (natB_lt _) (natB_lt _) h))

theorem lotAdv_nat (s : Nat) : lotAdv (s : Int) = ((s + 11400714819323198485) % 18446744073709551616 : Nat) := by
  unfold lotAdv; rw [IntKind.wrap_u64]; omega

/-- the state after k lots -/
def lotSt (s : Nat) (k : Nat) : Nat := (s + k * 11400714819323198485) % 18446744073709551616
theorem lotSt_lt (s k : Nat) : lotSt s k < 18446744073709551616 := Nat.mod_lt _ (by decide)
theorem lotSt_succ (s k : Nat) : lotAdv (lotSt s k : Int) = (lotSt s (k + 1) : Int) := by
  rw [lotAdv_nat]; unfold lotSt; omega
theorem inv3 : (11400714819323198485 : Nat) * 17428512612931826493 % 18446744073709551616 = 1 % 18446744073709551616 := by decide
theorem addmod_inj {s a b : Nat} (h : (s + a) % 18446744073709551616 = (s + b) % 18446744073709551616) : a % 18446744073709551616 = b % 18446744073709551616 := by omega
theorem lotSt_ne {s j k : Nat} (hj : j < k) (hk : k < 1000) : lotSt s j ≠ lotSt s k := by
  intro h
  have := mulmod_inj _ _ _ inv3 (x := j) (y := k) (by omega) (by omega) (addmod_inj h)
  omega

/-- lots of one seed are all different -/
theorem lots_apart {s j k : Nat} (hj : j < k) (hk : k < 1000) : lotOut (lotSt s j : Int) ≠ lotOut (lotSt s k : Int) := by
  rw [lotOut_nat _ (lotSt_lt _ _), lotOut_nat _ (lotSt_lt _ _)]
  intro h
  exact lotSt_ne hj hk (lotN_inj (lotSt_lt _ _) (lotSt_lt _ _) (by exact_mod_cast h))

/-- the first k lots of a seed -/
def lotZs (s k : Nat) : List Int := (List.range k).map fun j => lotOut (lotSt s (j + 1) : Int)
theorem lotZs_length (s k : Nat) : (lotZs s k).length = k := by simp [lotZs]
theorem lotZs_succ (s k : Nat) : lotZs s (k + 1) = lotZs s k ++ [lotOut (lotSt s (k + 1) : Int)] := by simp [lotZs, List.range_succ]
theorem lotZs_ne {s j k : Nat} (hj : j < k) (hk : k < 900) : ((lotZs s k).getD j 0 == lotOut (lotSt s (k + 1) : Int)) = false := by
  have e : (lotZs s k).getD j 0 = lotOut (lotSt s (j + 1) : Int) := by simp [lotZs, hj]
  rw [e]; exact beq_eq_false_iff_ne.2 (lots_apart (by omega) (by omega))
theorem lotSt_zero {s : Nat} (h : s < 18446744073709551616) : lotSt s 0 = s := by unfold lotSt; omega

/-- one number mixed into a seed -/
def mix1 (s n : Int) : Int := lotOut (lotAdv (bits BinOp.xor IntKind.u64 s (IntKind.u64.wrap n)))
def mixL (s : Int) (l : List Int) : Int := l.foldl mix1 s
theorem mixL_append (s : Int) (a b : List Int) : mixL (mixL s a) b = mixL s (a ++ b) := by simp [mixL]
theorem mixL_snoc (s : Int) (a : List Int) (n : Int) : mixL s (a ++ [n]) = mix1 (mixL s a) n := by simp [mixL]
theorem lot_first : lotOut (lotAdv 0) = 16294208416658607535 := by decide +kernel
end Go.Proofs.YtajnfkmkombajaaDoor
