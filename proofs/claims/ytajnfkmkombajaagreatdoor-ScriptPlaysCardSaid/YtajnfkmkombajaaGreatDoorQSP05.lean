/-
  Evidence as a map's key: how it reads; a look-up of a bool in a map of the call's own.
  Plain: an act on a chain. No program in sight.
  Plain facts on Knuth's division of two digits by one (math/bits.Div64), on natural numbers. No program in sight.
  The walk of math/bits.Div64.
  Contract of package part's Amount.
  Contracts of package part: Amount, over, Down, Up.
-/
import Derived.Test.YtajnfkmkombajaaGreatDoorQSP01
import Derived.Test.YtajnfkmkombajaaGreatDoorQSP04
import Derived.Maps.OwnOps
import Derived.Maps.OwnSet
import Derived.DeepKeys4
import Derived.WalkKit
import Derived.Lib.BitFns
import Derived.Test.YtajnfkmkombajaaGreatDoorQSP02
import Derived.Deep.QuietTactic
import Derived.BigQuiet
import Derived.Deep.DeepCutAuto
import Derived.Deep.CutBlock
import Derived.Outline
set_option linter.unusedVariables false
set_option linter.unusedSimpArgs false
set_option linter.unusedVariables false
namespace Go.Proofs.YtajnfkmkombajaaGreatDoor
open Go.RowKit Go.Maps
theorem laidOut : laidOutB Tryz.prog = true := by kernel_rfl
theorem keyE : Keyed Tryz.prog 61 :=
 Keyed.of_law (deep_law_laid laidOut (m := 2) (by omega) (of_decide_eq_true (by kernel_rfl)) (by kernel_rfl) (by rw [Tryz.underlying61]))
theorem zeroB (w : World) : (zeroValue 4).run Tryz.prog w = .ok (.bool false) w := by kernel_rfl
def EV.wf (e : EV) : Prop := (Lit.int .i64 e.b).wf = true ∧ (Lit.int .i64 e.c).wf = true ∧ (Lit.int .i64 e.n).wf = true
def evV (e : EV) : Value := .agg #[.int .i64 e.b, .int .i64 e.c, .int .i64 e.n]
def evK (e : EV) : Lit := .string (keyBytes [.int .i64 e.b, .int .i64 e.c, .int .i64 e.n])
theorem keyOf_ev {e : EV} (h : e.wf) : keyOf Tryz.prog 61 (evV e) = some (evK e) := by
 obtain ⟨m, hm⟩ : ∃ m, Tryz.prog.types.size = m + 1 := Nat.exists_eq_succ_of_ne_zero (by have : 0 < Tryz.prog.types.size := of_decide_eq_true (by kernel_rfl); omega)
 have hkt : Tryz.prog.keyType 61 = true := by kernel_rfl
 have hce : Tryz.prog.cellsOf 61 = 3 := by kernel_rfl
 have hci : Tryz.prog.cellsOf 3 = 1 := by kernel_rfl
 have hu := Tryz.underlying61
 have hui := Tryz.underlying3
 obtain ⟨h1, h2, h3⟩ := h
 unfold keyOf evV evK
 simp only [hu]
 rw [if_pos (by simp [hkt, Value.formed, hu, hce]), hm]
 unfold Program.keyLits
 simp only [hu, Value.cells]
 simp [hce, hci, Program.keyLits, hui, h1, h2, h3]
theorem evK_inj {e f : EV} (he : e.wf) (hf : f.wf) (h : evK e = evK f) : e = f := by
 have h1 := keyOf_ev he
 have h2 := keyOf_ev hf
 rw [← h] at h2
 have := keyE.inj h1 h2
 simp only [evV, Value.agg.injEq, Array.mk.injEq, List.cons.injEq, Value.int.injEq, true_and, and_true] at this
 obtain ⟨a, b, c⟩ := this
 cases e; cases f; simp_all
section
variable {H : Type} {P : Program} {k e t : TypeId} {w : World} {b n : Nat} {D : DataW H}
theorem plainElem_bool_inv (he : P.underlying e = some .bool) {v : Value} {z : DataW H × List MemPlace} (h : plainElem P e v = some z) : ∃ x, v = .bool x ∧ z = (.lit (.bool x), []) := by
 unfold plainElem at h
 rw [he] at h
 cases v <;> simp at h
 exact ⟨_, rfl, h.symm⟩
theorem lookup_bool (h : w.ownsMap P k (plainElem P e) b n D) (K : Keyed P k) (ht : P.underlying t = some (.map k e)) (he : P.underlying e = some .bool) (hz : (zeroValue e).run P w = .ok (.bool false) w)
   {key : Value} {kl : Lit} (hkey : keyOf P k key = some kl) : ∃ c, (Instr.lookup t (.map (some b)) key false).run P w = .ok (.bool c) w ∧ D.atKey kl (.lit (.bool false)) = .lit (.bool c) := by
 obtain ⟨v, ps, hrun, hv⟩ := h.lookup K ht hz (plainElem_bool he false) hkey
 obtain ⟨c, rfl, hc⟩ := plainElem_bool_inv he hv
 simp only [Prod.mk.injEq] at hc
 exact ⟨c, hrun, hc.1⟩
end
end Go.Proofs.YtajnfkmkombajaaGreatDoor
namespace Go.Proofs.YtajnfkmkombajaaGreatDoor
open Go.RowKit
structure ActC where
 kind : ByteArray
 o : Int
 t : Int
 b : Int
 n : Int
 round : Int
 e : EV
def ActC.enc (a : ActC) : List Value := [.string a.kind, .int .i64 a.o, .int .i64 a.t, .int .i64 a.b, .int .i64 a.n, .int .i64 a.round, .int .i64 a.e.b, .int .i64 a.e.c, .int .i64 a.e.n]
def ActC.wf (a : ActC) : Prop := a.kind.size ≤ maxLen ∧ (Lit.int .i64 a.o).wf = true ∧ (Lit.int .i64 a.t).wf = true ∧ (Lit.int .i64 a.b).wf = true ∧ (Lit.int .i64 a.n).wf = true ∧ (Lit.int .i64 a.round).wf = true ∧ a.e.wf
end Go.Proofs.YtajnfkmkombajaaGreatDoor
namespace Go.Proofs.YtajnfkmkombajaaGreatDoor
open Go.RowKit
def B32 : Nat := 4294967296
structure KInv (y1 y0 u u1 q r : Nat) : Prop where
 sum : q * y1 + r = u
 ge : (u * B32 + u1) / (y1 * B32 + y0) ≤ q
 le : q ≤ B32 + 1
theorem k_start {y1 y0 u u1 : Nat} (h1 : 2147483648 ≤ y1) (h0 : y0 < B32) (hu : u < y1 * B32 + y0) (hu1 : u1 < B32) : KInv y1 y0 u u1 (u / y1) (u % y1) := by
 have hpos : 0 < y1 := by omega
 refine ⟨by rw [Nat.mul_comm]; exact Nat.div_add_mod u y1, ?_, ?_⟩
 · -- (u B + u1) / (y1 B + y0) ≤ (u B + u1) / (y1 B) = u / y1
   have hB : (0 : Nat) < B32 := by decide
   have e1 : (u * B32 + u1) / (y1 * B32) = u / y1 := by
     rw [Nat.mul_comm y1 B32, ← Nat.div_div_eq_div_mul, Nat.mul_comm u B32, Nat.mul_add_div hB, Nat.div_eq_of_lt hu1, Nat.add_zero]
   rw [← e1]
   exact Nat.div_le_div_left (Nat.le_add_right _ _) (Nat.mul_pos hpos hB)
 · have : u / y1 < B32 + 2 := by
     rw [Nat.div_lt_iff_lt_mul hpos]
     have e : (B32 + 2) * y1 = y1 * B32 + 2 * y1 := by rw [Nat.add_mul, Nat.mul_comm B32 y1]
     rw [e]
     have : y0 < 2 * y1 := by unfold B32 at h0; omega
     omega
   omega
theorem k_q_lt {y1 y0 u u1 : Nat} (hpos : 0 < y1 * B32 + y0) (hu : u < y1 * B32 + y0) (hu1 : u1 < B32) : (u * B32 + u1) / (y1 * B32 + y0) < B32 := by
 rw [Nat.div_lt_iff_lt_mul hpos]
 have : (u + 1) * B32 ≤ (y1 * B32 + y0) * B32 := Nat.mul_le_mul_right _ hu
 rw [Nat.add_mul] at this
 rw [Nat.mul_comm B32]
 omega
theorem k_mul {y1 y0 u q r : Nat} (h : q * y1 + r = u) : q * (y1 * B32 + y0) + r * B32 = u * B32 + q * y0 := by
 rw [Nat.mul_add, ← h, Nat.add_mul, Nat.mul_assoc]; omega
theorem k_step {y1 y0 u u1 q r : Nat} (h1 : 2147483648 ≤ y1) (hu : u < y1 * B32 + y0) (hu1 : u1 < B32) (I : KInv y1 y0 u u1 q r) (ht : B32 ≤ q ∨ B32 * r + u1 < q * y0) : 1 ≤ q ∧ KInv y1 y0 u u1 (q - 1) (r + y1) ∧ q - 1 ≤ B32 := by
 have hpos : 0 < y1 * B32 + y0 := by unfold B32; omega
 have hlt : (u * B32 + u1) / (y1 * B32 + y0) < q := by
   rcases ht with ht | ht
   · exact Nat.lt_of_lt_of_le (k_q_lt hpos hu hu1) ht
   · rw [Nat.div_lt_iff_lt_mul hpos]
     have := k_mul (y0 := y0) I.sum
     rw [Nat.mul_comm r B32] at this
     omega
 have hq : 1 ≤ q := Nat.lt_of_le_of_lt (Nat.zero_le _) hlt
 have hle := I.le
 refine ⟨hq, ⟨?_, Nat.le_sub_one_of_lt hlt, by omega⟩, by omega⟩
 have := I.sum
 rw [Nat.sub_mul, Nat.one_mul]
 have : y1 ≤ q * y1 := Nat.le_mul_of_pos_left y1 hq
 omega
theorem k_end {y1 y0 u u1 q r : Nat} (hpos : 0 < y1 * B32 + y0) (I : KInv y1 y0 u u1 q r) (h : q * y0 ≤ B32 * r + u1) : q = (u * B32 + u1) / (y1 * B32 + y0) := by
 refine Nat.le_antisymm ?_ I.ge
 rw [Nat.le_div_iff_mul_le hpos]
 have := k_mul (y0 := y0) I.sum
 rw [Nat.mul_comm r B32] at this
 omega
theorem k_break {y1 y0 u u1 q r : Nat} (hpos : 0 < y1 * B32 + y0) (h0 : y0 < B32) (hq : q ≤ B32) (hr : B32 ≤ r) (I : KInv y1 y0 u u1 q r) : q = (u * B32 + u1) / (y1 * B32 + y0) := by
 refine k_end hpos I ?_
 have a : q * y0 ≤ B32 * B32 := Nat.mul_le_mul hq (Nat.le_of_lt h0)
 have b : B32 * B32 ≤ B32 * r := Nat.mul_le_mul_left _ hr
 omega
theorem k_two {y u u1 u0 : Nat} (hy : 0 < y) :
   (u * B32 + u1) / y * B32 + ((u * B32 + u1) % y * B32 + u0) / y = ((u * B32 + u1) * B32 + u0) / y ∧ ((u * B32 + u1) % y * B32 + u0) % y = ((u * B32 + u1) * B32 + u0) % y := by
 generalize u * B32 + u1 = v
 have e : v * B32 + u0 = v / y * B32 * y + (v % y * B32 + u0) := by
   have h2 : v * B32 = (v / y * y + v % y) * B32 := by rw [Nat.div_add_mod']
   rw [h2, Nat.add_mul, Nat.mul_right_comm]
   omega
 constructor
 · rw [e, Nat.add_comm (v / y * B32 * y), Nat.add_mul_div_right _ _ hy, Nat.add_comm]
 · rw [e, Nat.add_comm (v / y * B32 * y), Nat.add_mul_mod_self_right]
theorem bitLen_bounds : ∀ (n x : Nat), x < 2 ^ n → n ≤ 64 → x ≠ 0 → x < 2 ^ Lib.bitLen x ∧ 2 ^ Lib.bitLen x ≤ 2 * x ∧ 1 ≤ Lib.bitLen x ∧ Lib.bitLen x ≤ n := by
 intro n
 induction n with
 | zero => intro x h _ h0; omega
 | succ n ih =>
   intro x h hn h0
   have h64 : x < 2 ^ 64 := Nat.lt_of_lt_of_le h (Nat.pow_le_pow_right (by decide) hn)
   rw [Lib.bitLen_half x h0 h64]
   by_cases h1 : x / 2 = 0
   · have : x = 1 := by omega
     subst this
     exact ⟨by decide, by decide, by decide, by have : Lib.bitLen (1 / 2) = 0 := by decide
                                                omega⟩
   · obtain ⟨a, b, c, d⟩ := ih (x / 2) (by rw [Nat.pow_succ] at h; omega) (by omega) h1
     rw [Nat.add_comm 1, Nat.pow_succ]
     exact ⟨by omega, by omega, by omega, by omega⟩
structure DivPrep (hi lo y s Y y1 y0 h' l' u t u1 u0 : Nat) : Prop where
 a1 : IntKind.u64.wrap ((y : Int) * 2 ^ s) = (Y : Int)
 a2 : (Y : Int) / 4294967296 = (y1 : Int)
 a3 : bits BinOp.and IntKind.u64 (Y : Int) 4294967295 = (y0 : Int)
 a4 : IntKind.u64.wrap ((hi : Int) * 2 ^ s) = (h' : Int)
 a5 : (lo : Int) / 2 ^ (64 - s) = (l' : Int)
 a6 : bits BinOp.or IntKind.u64 (h' : Int) (l' : Int) = (u : Int)
 a7 : IntKind.u64.wrap ((lo : Int) * 2 ^ s) = (t : Int)
 a8 : (t : Int) / 4294967296 = (u1 : Int)
 a9 : bits BinOp.and IntKind.u64 (t : Int) 4294967295 = (u0 : Int)
 y0lt : y0 < B32
 y1ge : 2147483648 ≤ y1
 y1lt : y1 < B32
 Yeq : Y = y1 * B32 + y0
 ult : u < Y
 u1lt : u1 < B32
 u0lt : u0 < B32
 Ys : Y = y * 2 ^ s
 all : (u * B32 + u1) * B32 + u0 = (hi * 18446744073709551616 + lo) * 2 ^ s
theorem and32 (x : Nat) (hx : x < 18446744073709551616) : bits BinOp.and IntKind.u64 (x : Int) 4294967295 = ((x % B32 : Nat) : Int) := by
 have h := bits_mask .u64 64 (by decide) (fun n h0 h1 => by rw [IntKind.wrap_u64]; omega) 32 (by decide) (x : Int) (by omega) (by omega)
 have e : ((x % B32 : Nat) : Int) = (x : Int) % 2 ^ 32 := by unfold B32; omega
 rw [e]; exact h
theorem wrap_nat (x : Nat) (hx : x < 18446744073709551616) : IntKind.u64.wrap (x : Int) = (x : Int) := by rw [IntKind.wrap_u64]; omega
theorem div_prep (hi lo y s : Nat) (hs : Lib.bitLen y + s = 64) (hlo : lo < 18446744073709551616) (hy : hi < y) (hyM : y ≤ 1125899906842624) :
   DivPrep hi lo y s (y * 2 ^ s) (y * 2 ^ s / B32) (y * 2 ^ s % B32) (hi * 2 ^ s) (lo / 2 ^ (64 - s)) (hi * 2 ^ s + lo / 2 ^ (64 - s)) (lo % 2 ^ (64 - s) * 2 ^ s) (lo % 2 ^ (64 - s) * 2 ^ s / B32) (lo % 2 ^ (64 - s) * 2 ^ s % B32) := by
 obtain ⟨b1, b2, b3, b4⟩ := bitLen_bounds 51 y (by omega) (by decide) (by omega)
 have hcd : 2 ^ (64 - s) * 2 ^ s = 18446744073709551616 := by rw [← Nat.pow_add, Nat.sub_add_cancel (by omega)]
 have hdl : 2 ^ Lib.bitLen y = 2 ^ (64 - s) := by rw [show Lib.bitLen y = 64 - s by omega]
 rw [hdl] at b1 b2
 have hc : 0 < 2 ^ s := Nat.pow_pos (by decide)
 have hd : 0 < 2 ^ (64 - s) := Nat.pow_pos (by decide)
 have hcast : ((2 : Int) ^ s) = ((2 ^ s : Nat) : Int) := by rw [Int.natCast_pow]; rfl
 have hdast : ((2 : Int) ^ (64 - s)) = ((2 ^ (64 - s) : Nat) : Int) := by rw [Int.natCast_pow]; rfl
 have hp2 : (2 : Nat) ^ s = 2 ^ s := rfl
 generalize hcv : 2 ^ s = c at *
 generalize hdv : 2 ^ (64 - s) = d at *
 have hYlt : y * c < 18446744073709551616 := by rw [← hcd]; exact Nat.mul_lt_mul_of_pos_right b1 hc
 have hYge : 9223372036854775808 ≤ y * c := by
   have : d * c ≤ 2 * y * c := Nat.mul_le_mul_right _ b2
   rw [hcd, Nat.mul_assoc] at this; omega
 have hhc : hi * c + c ≤ y * c := by
   have : (hi + 1) * c ≤ y * c := Nat.mul_le_mul_right _ hy
   rw [Nat.add_mul, Nat.one_mul] at this; exact this
 have hl : lo / d < c := by rw [Nat.div_lt_iff_lt_mul hd, Nat.mul_comm, hcd]; exact hlo
 have hm : lo % d < d := Nat.mod_lt _ hd
 have ht : lo % d * c < 18446744073709551616 := by rw [← hcd]; exact Nat.mul_lt_mul_of_pos_right hm hc
 have hdm : lo / d * d + lo % d = lo := Nat.div_add_mod' lo d
 have hlc : lo * c = lo / d * 18446744073709551616 + lo % d * c := by
   have : lo * c = (lo / d * d + lo % d) * c := by rw [hdm]
   rw [this, Nat.add_mul, Nat.mul_assoc, hcd]
 refine ⟨?_, ?_, and32 _ hYlt, ?_, ?_, ?_, ?_, ?_, and32 _ ht, Nat.mod_lt _ (by decide), ?_, ?_, ?_, by omega, ?_, Nat.mod_lt _ (by decide), by rw [hcv], ?_⟩
 · rw [hcast, ← Int.natCast_mul]; exact wrap_nat _ hYlt
 · unfold B32; omega
 · rw [hcast, ← Int.natCast_mul]; exact wrap_nat _ (by omega)
 · rw [hdast, ← Int.natCast_ediv]
 · have hor : hi * c + lo / d = hi * c ||| lo / d := by
     rw [Nat.mul_comm hi, ← hcv]
     exact Nat.two_pow_add_eq_or_of_lt (by rw [hcv]; exact hl) hi
   have := bits_nat .u64 64 (by decide) (fun n h0 h1 => by rw [IntKind.wrap_u64]; omega) (hi * c) (lo / d) (by omega) (by omega)
   rw [this.2, hor]
 · rw [hcast, ← Int.natCast_mul, IntKind.wrap_u64, hlc]; omega
 · unfold B32; omega
 · unfold B32; omega
 · unfold B32; omega
 · unfold B32; omega
 · unfold B32; omega
 · have e : (hi * c + lo / d) * B32 * B32 + lo % d * c = (hi * 18446744073709551616 + lo) * c := by
     rw [Nat.add_mul (hi * 18446744073709551616), hlc, Nat.mul_right_comm hi, Nat.mul_assoc (hi * c + lo / d)]
     rw [show B32 * B32 = 18446744073709551616 from by decide, Nat.add_mul]; omega
   rw [hcv, ← e]
   have := Nat.div_add_mod' (lo % d * c) B32
   rw [Nat.add_mul]; omega
theorem u64_mul' (a b : Nat) (h : a * b < 18446744073709551616) : IntKind.u64.wrap ((a : Int) * (b : Int)) = (a : Int) * (b : Int) := by
 rw [← Int.natCast_mul]; exact wrap_nat _ h
theorem cast_lt {q y0 r u1 : Nat} (h : (4294967296 : Int) * (r : Int) + (u1 : Int) < (q : Int) * (y0 : Int)) : B32 * r + u1 < q * y0 := by
 rw [← Int.natCast_mul] at h; unfold B32; omega
theorem cast_le {q y0 r u1 : Nat} (h : ¬ (4294967296 : Int) * (r : Int) + (u1 : Int) < (q : Int) * (y0 : Int)) : q * y0 ≤ B32 * r + u1 := by
 rw [← Int.natCast_mul] at h; unfold B32; omega
def kmeas (a : Value) : Nat := (intOf a).toNat
theorem kmeas_lt {q : Nat} (h : 1 ≤ (q : Int)) : kmeas (.int .u64 ((q : Int) - 1)) < kmeas (.int .u64 q) := by
 unfold kmeas; simp only [intOf]; omega
def KRel (y1 y0 u u1 : Nat) (a b : Value) : Prop := ∃ q r : Nat, KInv y1 y0 u u1 q r ∧ (r : Int) < 4294967296 ∧ a = .int .u64 q ∧ b = .int .u64 r
theorem u64_mul (a b : Nat) (h : a * b < 18446744073709551616) : IntKind.u64.wrap ((a : Int) * (b : Int)) = ((a * b : Nat) : Int) := by
 rw [← Int.natCast_mul]; exact wrap_nat _ h
theorem krel_next {y1 y0 u u1 q r : Nat} (I : KInv y1 y0 u u1 (q - 1) (r + y1)) (h : ¬ (4294967296 : Int) ≤ (r : Int) + (y1 : Int)) (hq : 1 ≤ (q : Int)) :
   KRel y1 y0 u u1 (.int .u64 ((q : Int) - 1)) (.int .u64 ((r : Int) + (y1 : Int))) ∧ kmeas (.int .u64 ((q : Int) - 1)) < kmeas (.int .u64 q) :=
 ⟨⟨q - 1, r + y1, I, by omega, by congr 1; omega, by congr 1⟩, kmeas_lt hq⟩
theorem u64_left (u u1 q Y : Nat) (hY : Y < 18446744073709551616) (hY0 : 0 < Y) (hq : q = (u * B32 + u1) / Y) :
   IntKind.u64.wrap (IntKind.u64.wrap (IntKind.u64.wrap ((u : Int) * 4294967296) + (u1 : Int)) - IntKind.u64.wrap ((q : Int) * (Y : Int))) = (((u * B32 + u1) % Y : Nat) : Int) := by
 have h1 := Nat.div_add_mod' (u * B32 + u1) Y
 rw [← hq] at h1
 have h2 : (u * B32 + u1) % Y < Y := Nat.mod_lt _ hY0
 generalize (u * B32 + u1) % Y = r at *
 simp only [IntKind.wrap_u64]
 rw [← Int.natCast_mul]
 generalize q * Y = p at *
 unfold B32 at h1
 omega
theorem u64_quo (u y1 : Nat) (hu : u < 18446744073709551616) : IntKind.u64.wrap ((u : Int) / (y1 : Int)) = ((u / y1 : Nat) : Int) := by
 rw [← Int.natCast_ediv]; exact wrap_nat _ (Nat.lt_of_le_of_lt (Nat.div_le_self _ _) hu)
theorem u64_rem (u y1 : Nat) (hu : u < 18446744073709551616) : IntKind.u64.wrap ((u : Int) - IntKind.u64.wrap (((u / y1 : Nat) : Int) * (y1 : Int))) = ((u % y1 : Nat) : Int) := by
 have h1 := Nat.div_add_mod' u y1
 rw [u64_mul _ _ (by omega)]
 generalize u / y1 * y1 = p at *
 rw [IntKind.wrap_u64]; omega
theorem div_fin {hi lo y s Y y1 y0 h' l' u t u1 u0 Q u21 Q2 R : Nat} (D : DivPrep hi lo y s Y y1 y0 h' l' u t u1 u0) (hy : 0 < Y) (hQ : Q = (u * B32 + u1) / Y) (h21 : u21 = (u * B32 + u1) % Y) (hQ2 : Q2 = (u21 * B32 + u0) / Y) (hR : R = (u21 * B32 + u0) % Y) :
   (Q : Int) * 4294967296 + (Q2 : Int) = (((hi * 18446744073709551616 + lo) / y : Nat) : Int) ∧ (R : Int) / 2 ^ s = (((hi * 18446744073709551616 + lo) % y : Nat) : Int) := by
 obtain ⟨k1, k2⟩ := k_two (y := Y) (u := u) (u1 := u1) (u0 := u0) hy
 rw [← h21] at k1 k2
 rw [← hQ, ← hQ2, D.all, D.Ys] at k1
 rw [← hR, D.all, D.Ys] at k2
 have hc : 0 < 2 ^ s := Nat.pow_pos (by decide)
 rw [Nat.mul_div_mul_right _ _ hc] at k1
 rw [Nat.mul_mod_mul_right] at k2
 constructor
 · rw [← k1]; unfold B32; omega
 · have hcast : ((2 : Int) ^ s) = ((2 ^ s : Nat) : Int) := by rw [Int.natCast_pow]; rfl
   rw [k2, hcast, ← Int.natCast_ediv, Nat.mul_div_cancel _ hc]
end Go.Proofs.YtajnfkmkombajaaGreatDoor
namespace Go.Proofs.YtajnfkmkombajaaGreatDoor
open Go.RowKit
set_option maxRecDepth 100000 in
set_option maxHeartbeats 2000000 in
theorem div64_great (hi lo y s Y y1 y0 h' l' u t u1 u0 : Nat) (D : DivPrep hi lo y s Y y1 y0 h' l' u t u1 u0) (hs : Lib.bitLen y + s = 64) (h0 : 0 < hi) (hlo : lo < 18446744073709551616) (hy : hi < y) (hyM : y ≤ 1125899906842624) (hs1 : 13 ≤ s) (hs2 : s ≤ 63) (w : World) :
   Calls Tryz.prog 217 #[.int .u64 hi, .int .u64 lo, .int .u64 y] w fun e w' => e = .returned (.tuple #[.int .u64 (((hi * 18446744073709551616 + lo) / y : Nat) : Int), .int .u64 (((hi * 18446744073709551616 + lo) % y : Nat) : Int)]) ∧ w = w' := by
 have e1 : ((y : Int) == 0) = false := by simp; omega
 have e2 : ((hi : Int) == 0) = false := by simp; omega
 have e3 : (64 - (Lib.bitLen (y : Int).toNat : Int)) = (s : Int) := by simp; omega
 have E3 := Lib.hid e3; clear e3
 clear hs
 have HD := Lib.hid D
 obtain ⟨a1, a2, a3, a4, a5, a6, a7, a8, a9, y0lt, y1ge, y1lt, Yeq, ult, u1lt, u0lt, Ys, all⟩ := D
 have N1 : Hid ((y0 : Int) < 4294967296) := (by unfold B32 at y0lt; omega : (y0 : Int) < 4294967296)
 have N2 : Hid ((y1 : Int) < 4294967296) := (by unfold B32 at y1lt; omega : (y1 : Int) < 4294967296)
 have N3 : Hid ((u1 : Int) < 4294967296) := (by unfold B32 at u1lt; omega : (u1 : Int) < 4294967296)
 have N4 : Hid ((u0 : Int) < 4294967296) := (by unfold B32 at u0lt; omega : (u0 : Int) < 4294967296)
 have N6 : Hid ((2147483648 : Int) ≤ (y1 : Int)) := (by omega : (2147483648 : Int) ≤ (y1 : Int))
 clear Yeq ult Ys all y0lt y1ge y1lt u1lt u0lt
 have hy1p : (1 : Int) ≤ (y1 : Int) := by have := N6.out; omega
 have hy1n : ((y1 : Int) = 0) = False := by simp; omega
 have hu64 : u < 18446744073709551616 := by have := HD.out.Yeq; have := HD.out.ult; have := HD.out.y0lt; have := HD.out.y1lt; unfold B32 at *; omega
 obtain ⟨qi, hqi⟩ : ∃ qi, qi = u / y1 := ⟨_, rfl⟩
 obtain ⟨ri, hri0⟩ : ∃ ri, ri = u % y1 := ⟨_, rfl⟩
 have b1 : IntKind.u64.wrap ((u : Int) / (y1 : Int)) = (qi : Int) := by rw [hqi]; exact u64_quo u y1 hu64
 have b2 : IntKind.u64.wrap ((u : Int) - IntKind.u64.wrap ((qi : Int) * (y1 : Int))) = (ri : Int) := by rw [hqi, hri0]; exact u64_rem u y1 hu64
 have HU : Hid (u < y1 * B32 + y0) := by have := HD.out.Yeq; have := HD.out.ult; exact (by omega : u < y1 * B32 + y0)
 have HI : Hid (KInv y1 y0 u u1 qi ri) := by rw [hqi, hri0]; exact k_start HD.out.y1ge HD.out.y0lt HU.out HD.out.u1lt
 have hri : ri < 4294967296 := by have : u % y1 < y1 := Nat.mod_lt _ (by omega); have := N2.out; omega
 obtain ⟨Q, hQ⟩ : ∃ Q, Q = (u * B32 + u1) / Y := ⟨_, rfl⟩
 have HQ := Lib.hid hQ; clear hQ hqi hri0
 have d1 : decide (y ≤ hi) = false := by simp; omega
 have Hri := Lib.hid hri
 have hyI : (y : Int) ≤ 1125899906842624 := by omega
 have HyI := Lib.hid hyI
 have hy0 : (0 : Int) ≤ (y : Int) := by omega
 clear hri hu64 hyM hlo hyI
 go_enter Tryz.func217, Tryz.ntmps217
 go_upto_block 0 with (go_at_call 238; refine (Tryz.bits_LeadingZeros64 _ _ hy0 (by have := HyI.out; omega)).mono ?_; rintro e w' ⟨rfl, hww⟩; rw [E3.out])
 have hww2 := hww.symm
 subst hww2
 clear hww
 go_cut [15, 16] (fun a _ wx => a = .int .u64 Q ∧ w = wx)
 case first =>
   go_wp2_with fail
   have n1 := N1.out
   have n2 := N2.out
   have n3 := N3.out
   have n6 := N6.out
   go_loop [15, 16] (fun a b => KRel y1 y0 u u1 a b) (fun a _ => kmeas a)
   case atStart => exact ⟨_, _, HI.out, by have := Hri.out; omega, rfl, rfl⟩
   case round =>
     obtain ⟨q, r, I, hr, rfl, rfl⟩ := hrel
     have hle := I.le
     have HIr := Lib.hid I; clear I
     have hle2 : (q : Int) ≤ 4294967297 := by unfold B32 at hle; omega
     clear hle
     by_cases hq : (4294967296 : Int) ≤ (q : Int)
     · obtain ⟨p1, I2, p2⟩ := k_step HD.out.y1ge HU.out HD.out.u1lt HIr.out (.inl (by unfold B32; omega))
       have HI2 := Lib.hid I2; clear I2
       have hp1 : (1 : Int) ≤ (q : Int) := by omega
       have Hp2 := Lib.hid p2; clear p2 p1
       by_cases hr2 : (4294967296 : Int) ≤ (r : Int) + (y1 : Int)
       · have HqQ : Hid (((q : Int) - 1) = (Q : Int)) := by
           have := k_break (by have := HU.out; omega) HD.out.y0lt Hp2.out (by unfold B32; omega) HI2.out
           exact (by rw [HQ.out, HD.out.Yeq, ← this]; omega : ((q : Int) - 1) = (Q : Int))
         go_wp2_with (go_meet; exact ⟨by rw [HqQ.out], rfl⟩)
       · have HN := Lib.hid (krel_next HI2.out hr2 hp1)
         go_wp2_with fail
         exact HN.out
     · have hqn : (q : Int) < 4294967296 := by omega
       have hp := u64_mul' q y0 (by have := Nat.mul_lt_mul'' (show q < 4294967296 by omega) (show y0 < 4294967296 by omega); exact this)
       have hdq : decide ((4294967296 : Int) ≤ (q : Int)) = false := by simp; omega
       by_cases ht : (4294967296 : Int) * (r : Int) + (u1 : Int) < (q : Int) * (y0 : Int)
       · have hdt : decide ((4294967296 : Int) * (r : Int) + (u1 : Int) < (q : Int) * (y0 : Int)) = true := by simp only [decide_eq_true_eq]; exact ht
         obtain ⟨p1, I2, p2⟩ := k_step HD.out.y1ge HU.out HD.out.u1lt HIr.out (.inr (cast_lt ht))
         have HI2 := Lib.hid I2; clear I2
         have hp1 : (1 : Int) ≤ (q : Int) := by omega
         have Hp2 := Lib.hid p2; clear p2 p1
         by_cases hr2 : (4294967296 : Int) ≤ (r : Int) + (y1 : Int)
         · have HqQ : Hid (((q : Int) - 1) = (Q : Int)) := by
             have := k_break (by have := HU.out; omega) HD.out.y0lt Hp2.out (by unfold B32; omega) HI2.out
             exact (by rw [HQ.out, HD.out.Yeq, ← this]; omega : ((q : Int) - 1) = (Q : Int))
           go_wp2_with (go_meet; exact ⟨by rw [HqQ.out], rfl⟩)
         · have HN := Lib.hid (krel_next HI2.out hr2 hp1)
           go_wp2_with fail
           exact HN.out
       · have hdt : decide ((4294967296 : Int) * (r : Int) + (u1 : Int) < (q : Int) * (y0 : Int)) = false := by simp only [decide_eq_false_iff_not]; exact ht
         have HqQ : Hid ((q : Int) = (Q : Int)) := by
           have := k_end (by have := HU.out; omega) HIr.out (cast_le ht)
           exact (by rw [HQ.out, HD.out.Yeq, ← this] : (q : Int) = (Q : Int))
         go_wp2_with (go_meet; exact ⟨by rw [HqQ.out], rfl⟩)
 case rest =>
   obtain ⟨rfl, rfl⟩ := hcut
   have N5 : Hid (Y < 18446744073709551616) := (by have := HD.out.Yeq; have := HD.out.y0lt; have := HD.out.y1lt; unfold B32 at *; omega : Y < 18446744073709551616)
   have N7 : Hid (0 < Y) := (by have := HD.out.ult; omega : 0 < Y)
   obtain ⟨u21, hu21⟩ : ∃ u21, u21 = (u * B32 + u1) % Y := ⟨_, rfl⟩
   have c1 : IntKind.u64.wrap (IntKind.u64.wrap (IntKind.u64.wrap ((u : Int) * 4294967296) + (u1 : Int)) - IntKind.u64.wrap ((Q : Int) * (Y : Int))) = (u21 : Int) := by rw [hu21]; exact u64_left u u1 Q Y N5.out N7.out HQ.out
   have HU2 : Hid (u21 < y1 * B32 + y0) := by
     have h := Nat.mod_lt (u * B32 + u1) N7.out
     rw [← hu21] at h
     have := HD.out.Yeq
     exact (by omega : u21 < y1 * B32 + y0)
   have hu21l : u21 < 18446744073709551616 := by have := HD.out.Yeq; have := HU2.out; have := N5.out; omega
   obtain ⟨qj, hqj⟩ : ∃ qj, qj = u21 / y1 := ⟨_, rfl⟩
   obtain ⟨rj, hrj0⟩ : ∃ rj, rj = u21 % y1 := ⟨_, rfl⟩
   have d1 : IntKind.u64.wrap ((u21 : Int) / (y1 : Int)) = (qj : Int) := by rw [hqj]; exact u64_quo u21 y1 hu21l
   have d2 : IntKind.u64.wrap ((u21 : Int) - IntKind.u64.wrap ((qj : Int) * (y1 : Int))) = (rj : Int) := by rw [hqj, hrj0]; exact u64_rem u21 y1 hu21l
   have HI' : Hid (KInv y1 y0 u21 u0 qj rj) := by rw [hqj, hrj0]; exact k_start HD.out.y1ge HD.out.y0lt HU2.out HD.out.u0lt
   have Hri' : Hid (rj < 4294967296) := (by have : u21 % y1 < y1 := Nat.mod_lt _ (by have := N6.out; omega); have := N2.out; omega : rj < 4294967296)
   obtain ⟨Q2, hQ2⟩ : ∃ Q2, Q2 = (u21 * B32 + u0) / Y := ⟨_, rfl⟩
   have HQ2 := Lib.hid hQ2; clear hQ2 hqj hrj0
   have HU21 := Lib.hid hu21; clear hu21 hu21l
   go_upto_block 2 with fail
   go_cut [18, 16] (fun a _ wx => a = .int .u64 Q2 ∧ w = wx)
   case first =>
     go_wp2_with fail
     have n1 := N1.out
     have n2 := N2.out
     have n4 := N4.out
     have n6 := N6.out
     go_loop [18, 16] (fun a b => KRel y1 y0 u21 u0 a b) (fun a _ => kmeas a)
     case atStart => exact ⟨_, _, HI'.out, by have := Hri'.out; omega, rfl, rfl⟩
     case round =>
       obtain ⟨q, r, I, hr, rfl, rfl⟩ := hrel
       have hle := I.le
       have HIr := Lib.hid I; clear I
       have hle2 : (q : Int) ≤ 4294967297 := by unfold B32 at hle; omega
       clear hle
       by_cases hq : (4294967296 : Int) ≤ (q : Int)
       · obtain ⟨p1, I2, p2⟩ := k_step HD.out.y1ge HU2.out HD.out.u0lt HIr.out (.inl (by unfold B32; omega))
         have HI2 := Lib.hid I2; clear I2
         have hp1 : (1 : Int) ≤ (q : Int) := by omega
         have Hp2 := Lib.hid p2; clear p2 p1
         by_cases hr2 : (4294967296 : Int) ≤ (r : Int) + (y1 : Int)
         · have HqQ : Hid (((q : Int) - 1) = (Q2 : Int)) := by
             have := k_break (by have := HU2.out; omega) HD.out.y0lt Hp2.out (by unfold B32; omega) HI2.out
             exact (by rw [HQ2.out, HD.out.Yeq, ← this]; omega : ((q : Int) - 1) = (Q2 : Int))
           go_wp2_with (go_meet; exact ⟨by rw [HqQ.out], rfl⟩)
         · have HN := Lib.hid (krel_next HI2.out hr2 hp1)
           go_wp2_with fail
           exact HN.out
       · have hqn : (q : Int) < 4294967296 := by omega
         have hp := u64_mul' q y0 (by have := Nat.mul_lt_mul'' (show q < 4294967296 by omega) (show y0 < 4294967296 by omega); exact this)
         have hdq : decide ((4294967296 : Int) ≤ (q : Int)) = false := by simp; omega
         by_cases ht : (4294967296 : Int) * (r : Int) + (u0 : Int) < (q : Int) * (y0 : Int)
         · have hdt : decide ((4294967296 : Int) * (r : Int) + (u0 : Int) < (q : Int) * (y0 : Int)) = true := by simp only [decide_eq_true_eq]; exact ht
           obtain ⟨p1, I2, p2⟩ := k_step HD.out.y1ge HU2.out HD.out.u0lt HIr.out (.inr (cast_lt ht))
           have HI2 := Lib.hid I2; clear I2
           have hp1 : (1 : Int) ≤ (q : Int) := by omega
           have Hp2 := Lib.hid p2; clear p2 p1
           by_cases hr2 : (4294967296 : Int) ≤ (r : Int) + (y1 : Int)
           · have HqQ : Hid (((q : Int) - 1) = (Q2 : Int)) := by
               have := k_break (by have := HU2.out; omega) HD.out.y0lt Hp2.out (by unfold B32; omega) HI2.out
               exact (by rw [HQ2.out, HD.out.Yeq, ← this]; omega : ((q : Int) - 1) = (Q2 : Int))
             go_wp2_with (go_meet; exact ⟨by rw [HqQ.out], rfl⟩)
           · have HN := Lib.hid (krel_next HI2.out hr2 hp1)
             go_wp2_with fail
             exact HN.out
         · have hdt : decide ((4294967296 : Int) * (r : Int) + (u0 : Int) < (q : Int) * (y0 : Int)) = false := by simp only [decide_eq_false_iff_not]; exact ht
           have HqQ : Hid ((q : Int) = (Q2 : Int)) := by
             have := k_end (by have := HU2.out; omega) HIr.out (cast_le ht)
             exact (by rw [HQ2.out, HD.out.Yeq, ← this] : (q : Int) = (Q2 : Int))
           go_wp2_with (go_meet; exact ⟨by rw [HqQ.out], rfl⟩)
   case rest =>
     obtain ⟨rfl, rfl⟩ := hcut
     have f1 : IntKind.u64.wrap (IntKind.u64.wrap (IntKind.u64.wrap ((u21 : Int) * 4294967296) + (u0 : Int)) - IntKind.u64.wrap ((Q2 : Int) * (Y : Int))) = (((u21 * B32 + u0) % Y : Nat) : Int) := u64_left u21 u0 Q2 Y N5.out N7.out HQ2.out
     obtain ⟨R, hR⟩ : ∃ R, R = (u21 * B32 + u0) % Y := ⟨_, rfl⟩
     rw [← hR] at f1
     have HR := Lib.hid hR; clear hR
     have g1 : (Q : Int) < 4294967296 := by
       have := k_q_lt (by have := HU.out; omega) HU.out HD.out.u1lt
       rw [← HD.out.Yeq, ← HQ.out] at this; unfold B32 at this; omega
     have g2 : (Q2 : Int) < 4294967296 := by
       have := k_q_lt (by have := HU2.out; omega) HU2.out HD.out.u0lt
       rw [← HD.out.Yeq, ← HQ2.out] at this; unfold B32 at this; omega
     obtain ⟨k1, k2⟩ := div_fin HD.out N7.out HQ.out HU21.out HQ2.out HR.out
     have K1 := Lib.hid k1
     have K2 := Lib.hid k2
     clear k1 k2
     go_wp2_with fail
     go_ret2
     refine ⟨?_, rfl⟩
     rw [← K1.out, ← K2.out]
     rfl
def DivPost (n y : Nat) (w : World) (e : Ending) (w' : World) : Prop := e = .returned (.tuple #[.int .u64 ((n / y : Nat) : Int), .int .u64 ((n % y : Nat) : Int)]) ∧ ∃ k, w.drewN k = w'
theorem div64_small (lo y : Nat) (hlo : lo < 18446744073709551616) (hy : 0 < y) (hyM : y ≤ 1125899906842624) (w : World) :
   Calls Tryz.prog 217 #[.int .u64 0, .int .u64 lo, .int .u64 y] w (DivPost lo y w) := by
 have e1 : ((y : Int) == 0) = false := by simp; omega
 have d1 : decide (y ≤ 0) = false := by simp; omega
 have e2 : IntKind.u64.wrap ((lo : Int) / (y : Int)) = ((lo / y : Nat) : Int) := u64_quo lo y hlo
 have hlt : lo / y < 18446744073709551616 := Nat.lt_of_le_of_lt (Nat.div_le_self _ _) hlo
 have hy1 : (1 : Int) ≤ (y : Int) := by omega
 have hy2 : ((y : Int) = 0) = False := by simp; omega
 clear hlt hlo hyM
 go_enter Tryz.func217, Tryz.ntmps217
 go_wp2_with fail
 go_quiet (fail)
 go_wp2
 go_ret2
 exact ⟨rfl, nq, rfl⟩
theorem bits_Div64 (hi lo y : Nat) (hlo : lo < 18446744073709551616) (hy : hi < y) (hyM : y ≤ 1125899906842624) (w : World) :
   Calls Tryz.prog 217 #[.int .u64 hi, .int .u64 lo, .int .u64 y] w (DivPost (hi * 18446744073709551616 + lo) y w) := by
 by_cases h0 : hi = 0
 · subst h0
   have := div64_small lo y hlo hy hyM w
   simpa using this
 · obtain ⟨b1, b2, b3, b4⟩ := bitLen_bounds 51 y (by omega) (by decide) (by omega)
   obtain ⟨s, hs⟩ : ∃ s, Lib.bitLen y + s = 64 := ⟨64 - Lib.bitLen y, by omega⟩
   have h := div64_great hi lo y s _ _ _ _ _ _ _ _ _ (div_prep hi lo y s hs hlo hy hyM) hs (by omega) hlo hy hyM (by omega) (by omega) w
   exact h.mono fun e w' ⟨he, hw⟩ => ⟨he, 0, hw⟩
end Go.Proofs.YtajnfkmkombajaaGreatDoor
namespace Go.Proofs.YtajnfkmkombajaaGreatDoor
open Go.RowKit
theorem part_Amount (n : Int) (w : World) : Calls Tryz.prog 137 #[.int .i64 n] w fun e w' => e = .returned (.bool (amtB n)) ∧ w = w' := by
 by_cases h : 0 ≤ n ∧ n ≤ 1125899906842624
 · obtain ⟨h0, h1⟩ := h
   have H := Lib.hid (amtB_iff.2 ⟨h0, h1⟩)
   go_enter Tryz.func137, Tryz.ntmps137
   go_wp2
   go_ret
   exact ⟨by rw [H.out]; rfl, rfl⟩
 · have H := Lib.hid (amtB_false.2 h)
   rcases Int.lt_or_le n 0 with h0 | h0
   · clear h
     go_enter Tryz.func137, Tryz.ntmps137
     go_wp2
     go_ret
     exact ⟨by rw [H.out]; rfl, rfl⟩
   · have hd : decide (n ≤ 1125899906842624) = false := by simp; omega
     clear h
     go_enter Tryz.func137, Tryz.ntmps137
     go_wp2
     go_ret
     exact ⟨by rw [H.out]; rfl, rfl⟩
end Go.Proofs.YtajnfkmkombajaaGreatDoor
namespace Go.Proofs.YtajnfkmkombajaaGreatDoor
open Go.RowKit
def OverPost (A : Nat → Addr) (a b c : Int) (w : World) (e : Ending) (w' : World) : Prop := e = .returned (.tuple #[.int .i64 (overN a b c), .int .i64 (overR a b c), ev A (overC a b c)]) ∧ Dr w w'
theorem over_in (A : Nat → Addr) (S : List Nat) (a b c : Nat) (ha : a ≤ 1125899906842624) (hb : b ≤ 1125899906842624) (hc0 : 0 < c) (hc : c ≤ 1125899906842624) (w : World) (hE : Errs A S w) (h2 : 2 ∈ S) :
   Calls Tryz.prog 183 #[.int .i64 a, .int .i64 b, .int .i64 c] w (OverPost A a b c w) := by
 have g2 : w.cell? ⟨0, 0, none⟩ = some (.iface 288 (.pointer (some (A 2)))) := hE.cell 2 h2
 have ha1 : amtB (a : Int) = true := amtB_iff.2 (by omega)
 have hb1 : amtB (b : Int) = true := amtB_iff.2 (by omega)
 have hc1 : amtB (c : Int) = true := amtB_iff.2 (by omega)
 have hc2 : ((c : Int) == 0) = false := by simp; omega
 have ia : (0 : Int) ≤ (a : Int) ∧ (a : Int) ≤ 1125899906842624 := by omega
 have ib : (0 : Int) ≤ (b : Int) ∧ (b : Int) ≤ 1125899906842624 := by omega
 have ic : (0 : Int) ≤ (c : Int) ∧ (c : Int) ≤ 1125899906842624 := by omega
 obtain ⟨hi, hhi⟩ : ∃ hi, hi = a * b / 18446744073709551616 := ⟨_, rfl⟩
 obtain ⟨lo, hlo⟩ : ∃ lo, lo = a * b % 18446744073709551616 := ⟨_, rfl⟩
 have hM : ∀ wx : World, Calls Tryz.prog 216 #[.int .u64 a, .int .u64 b] wx fun e w' => e = .returned (.tuple #[.int .u64 (hi : Int), .int .u64 (lo : Int)]) ∧ w' = wx := by
   intro wx; rw [hhi, hlo]; exact Tryz.bits_Mul64 a b (by omega) (by omega) wx
 have hall : hi * 18446744073709551616 + lo = a * b := by rw [hhi, hlo]; omega
 have hlol : lo < 18446744073709551616 := by rw [hlo]; exact Nat.mod_lt _ (by decide)
 have HM := Lib.hid hM
 clear hM hhi hlo ha hb
 have hmulc : (a : Int) * (b : Int) = ((a * b : Nat) : Int) := (Int.natCast_mul a b).symm
 have hq0 : (a : Int) * (b : Int) / (c : Int) = ((a * b / c : Nat) : Int) := by rw [hmulc, ← Int.natCast_ediv]
 have hr0 : (a : Int) * (b : Int) % (c : Int) = ((a * b % c : Nat) : Int) := by rw [hmulc, ← Int.natCast_emod]
 by_cases hlt : hi < c
 · have hD := bits_Div64 hi lo c hlol hlt hc w
   rw [hall] at hD
   have hdl : decide (c ≤ hi) = false := by simp; omega
   obtain ⟨q, hq⟩ : ∃ q, q = a * b / c := ⟨_, rfl⟩
   obtain ⟨r, hr⟩ : ∃ r, r = a * b % c := ⟨_, rfl⟩
   unfold DivPost at hD
   rw [← hq, ← hr] at hD
   rw [← hq] at hq0
   rw [← hr] at hr0
   have HD := Lib.hid hD; clear hD
   have hrl : (r : Int) < (c : Int) := by have := Nat.mod_lt (a * b) hc0; omega
   clear hq hr hall hlol hmulc
   by_cases hqM : (q : Int) ≤ 1125899906842624
   · have hO : overOk a b c := ⟨ia, ib, by omega, by rw [hq0]; exact hqM⟩
     obtain ⟨y1, y2, y3⟩ := over_yes hO
     rw [hq0] at y2
     rw [hr0] at y3
     have Y1 := Lib.hid y1; have Y2 := Lib.hid y2; have Y3 := Lib.hid y3
     clear y1 y2 y3 hO hq0 hr0
     go_enter Tryz.func183, Tryz.ntmps183
     go_wp2_with (first
       | (go_at_call 137; refine (part_Amount _ _).mono ?_; rintro e w' ⟨rfl, rfl⟩)
       | (go_at_call 216; refine (HM.out _).mono ?_; rintro e w' ⟨rfl, hw1⟩; have hw2 := hw1.symm; subst hw2; clear hw1)
       | (go_at_call 217; refine HD.out.mono ?_; rintro e w' ⟨rfl, k, hw1⟩; subst hw1))
     go_ret3
     refine ⟨?_, k, rfl⟩
     rw [Y1.out, Y2.out, Y3.out]
     rfl
   · have hO : ¬ overOk a b c := fun h => hqM (by rw [← hq0]; exact h.2.2.2)
     obtain ⟨y1, y2, y3⟩ := over_no hO
     have Y1 := Lib.hid y1; have Y2 := Lib.hid y2; have Y3 := Lib.hid y3
     clear y1 y2 y3 hO hq0 hr0
     go_enter Tryz.func183, Tryz.ntmps183
     go_wp2_with (first
       | (go_at_call 137; refine (part_Amount _ _).mono ?_; rintro e w' ⟨rfl, rfl⟩)
       | (go_at_call 216; refine (HM.out _).mono ?_; rintro e w' ⟨rfl, hw1⟩; have hw2 := hw1.symm; subst hw2; clear hw1)
       | (go_at_call 217; refine HD.out.mono ?_; rintro e w' ⟨rfl, k, hw1⟩; subst hw1))
     go_quiet (fail)
     go_wp2
     go_ret3
     refine ⟨?_, k + nq, by simp [World.drewN, Nat.add_assoc]⟩
     rw [Y1.out, Y2.out, Y3.out]
     rfl
 · have hO : ¬ overOk a b c := by
     intro h
     have h4 := h.2.2.2
     rw [hq0] at h4
     have : 18446744073709551616 ≤ a * b / c := by
       rw [Nat.le_div_iff_mul_le hc0, ← hall]
       have : c * 18446744073709551616 ≤ hi * 18446744073709551616 := Nat.mul_le_mul_right _ (Nat.le_of_not_lt hlt)
       omega
     omega
   have hdl : decide (c ≤ hi) = true := by simp; omega
   obtain ⟨y1, y2, y3⟩ := over_no hO
   have Y1 := Lib.hid y1; have Y2 := Lib.hid y2; have Y3 := Lib.hid y3
   clear y1 y2 y3 hO hq0 hr0 hall hlol hmulc hlt
   go_enter Tryz.func183, Tryz.ntmps183
   go_wp2_with (first
       | (go_at_call 137; refine (part_Amount _ _).mono ?_; rintro e w' ⟨rfl, rfl⟩)
       | (go_at_call 216; refine (HM.out _).mono ?_; rintro e w' ⟨rfl, hw1⟩; have hw2 := hw1.symm; subst hw2; clear hw1))
   go_quiet (fail)
   go_wp2
   go_ret3
   refine ⟨?_, nq, rfl⟩
   rw [Y1.out, Y2.out, Y3.out]
   rfl
theorem over_out (A : Nat → Addr) (S : List Nat) (a b c : Int) (h : ¬ (amtB a = true ∧ amtB b = true ∧ amtB c = true ∧ c ≠ 0)) (w : World) (hE : Errs A S w) (h2 : 2 ∈ S) :
   Calls Tryz.prog 183 #[.int .i64 a, .int .i64 b, .int .i64 c] w (OverPost A a b c w) := by
 have g2 : w.cell? ⟨0, 0, none⟩ = some (.iface 288 (.pointer (some (A 2)))) := hE.cell 2 h2
 have hO : ¬ overOk a b c := fun ⟨x, y, z, _⟩ => h ⟨amtB_iff.2 x, amtB_iff.2 y, amtB_iff.2 (by omega), by omega⟩
 obtain ⟨y1, y2, y3⟩ := over_no hO
 have Y1 := Lib.hid y1; have Y2 := Lib.hid y2; have Y3 := Lib.hid y3
 clear y1 y2 y3 hO
 have hcases : amtB a = false ∨ (amtB a = true ∧ amtB b = false) ∨ (amtB a = true ∧ amtB b = true ∧ amtB c = false) ∨ (amtB a = true ∧ amtB b = true ∧ amtB c = true ∧ (c == 0) = true) := by
   cases h1 : amtB a <;> cases h2 : amtB b <;> cases h3 : amtB c <;> simp_all
 clear h
 rcases hcases with k1 | ⟨k1, k2⟩ | ⟨k1, k2, k3⟩ | ⟨k1, k2, k3, k4⟩
 all_goals
   go_enter Tryz.func183, Tryz.ntmps183
   go_wp2_with (go_at_call 137; refine (part_Amount _ _).mono ?_; rintro e w' ⟨rfl, rfl⟩)
   go_quiet (fail)
   go_wp2
   go_ret3
   refine ⟨?_, nq, rfl⟩
   rw [Y1.out, Y2.out, Y3.out]
   rfl
theorem part_over (A : Nat → Addr) (S : List Nat) (a b c : Int) (w : World) (hE : Errs A S w) (h2 : 2 ∈ S) :
   Calls Tryz.prog 183 #[.int .i64 a, .int .i64 b, .int .i64 c] w (OverPost A a b c w) := by
 by_cases h : amtB a = true ∧ amtB b = true ∧ amtB c = true ∧ c ≠ 0
 · obtain ⟨ha, hb, hc, hc0⟩ := h
   rw [amtB_iff] at ha hb hc
   obtain ⟨a, rfl⟩ := Int.eq_ofNat_of_zero_le ha.1
   obtain ⟨b, rfl⟩ := Int.eq_ofNat_of_zero_le hb.1
   obtain ⟨c, rfl⟩ := Int.eq_ofNat_of_zero_le hc.1
   exact over_in A S a b c (by omega) (by omega) (by omega) (by omega) w hE h2
 · exact over_out A S a b c h w hE h2
def DownPost (A : Nat → Addr) (a b c : Int) (w : World) (e : Ending) (w' : World) : Prop := e = .returned (.tuple #[.int .i64 (overN a b c), ev A (overC a b c)]) ∧ Dr w w'
theorem part_Down (A : Nat → Addr) (S : List Nat) (a b c : Int) (w : World) (hE : Errs A S w) (h2 : 2 ∈ S) :
   Calls Tryz.prog 161 #[.int .i64 a, .int .i64 b, .int .i64 c] w (DownPost A a b c w) := by
 have H := Lib.hid (part_over A S a b c w hE h2)
 go_enter Tryz.func161, Tryz.ntmps161
 go_wp2_with (go_at_call 183; refine H.out.mono ?_; rintro e w' ⟨rfl, hd⟩)
 go_ret2
 exact ⟨rfl, hd⟩
def UpPost (A : Nat → Addr) (a b c : Int) (w : World) (e : Ending) (w' : World) : Prop := e = .returned (.tuple #[.int .i64 (upN a b c), ev A (upC a b c)]) ∧ Dr w w'
theorem part_Up (A : Nat → Addr) (S : List Nat) (a b c : Int) (w : World) (hE : Errs A S w) (h2 : 2 ∈ S) :
   Calls Tryz.prog 190 #[.int .i64 a, .int .i64 b, .int .i64 c] w (UpPost A a b c w) := by
 have H := Lib.hid (part_over A S a b c w hE h2)
 have HE := Lib.hid hE; clear hE
 by_cases hO : overOk a b c
 · obtain ⟨y1, y2, y3⟩ := over_yes hO
   have hc1 : 1 ≤ c := hO.2.2.1.1
   have hq0 : 0 ≤ a * b / c := Int.ediv_nonneg (Int.mul_nonneg hO.1.1 hO.2.1.1) (by omega)
   have hr0 : 0 ≤ a * b % c := Int.emod_nonneg _ (by omega)
   have hq1 : a * b / c ≤ 1125899906842624 := hO.2.2.2
   obtain ⟨q, hq⟩ : ∃ q, q = a * b / c := ⟨_, rfl⟩
   obtain ⟨r, hr⟩ : ∃ r, r = a * b % c := ⟨_, rfl⟩
   have he : ev A (overC a b c) = .nilIface := by rw [y1]; rfl
   rw [← hq] at y2 hq0 hq1
   rw [← hr] at y3 hr0
   have Hq := Lib.hid hq; have Hr := Lib.hid hr
   clear hq hr y1
   have HO := Lib.hid hO; clear hO
   by_cases hz : r = 0
   · subst hz
     have hU : upOk a b c := ⟨HO.out, by rw [← Hr.out, ← Hq.out]; simpa using hq1⟩
     obtain ⟨u1, u2⟩ := up_yes hU
     rw [← Hr.out, ← Hq.out, if_pos rfl, Int.add_zero] at u2
     have U1 := Lib.hid u1; have U2 := Lib.hid u2
     clear u1 u2 hU
     go_enter Tryz.func190, Tryz.ntmps190
     go_wp2_with (go_at_call 183; refine H.out.mono ?_; rintro e w' ⟨rfl, hd⟩)
     go_ret2
     exact ⟨by rw [U1.out, U2.out]; rfl, hd⟩
   · have hr1 : 0 < r := by omega
     by_cases hl : q + 1 ≤ 1125899906842624
     · have hU : upOk a b c := ⟨HO.out, by rw [← Hr.out, ← Hq.out, if_neg hz]; exact hl⟩
       obtain ⟨u1, u2⟩ := up_yes hU
       rw [← Hr.out, ← Hq.out, if_neg hz] at u2
       have U1 := Lib.hid u1; have U2 := Lib.hid u2
       clear u1 u2 hU hz
       go_enter Tryz.func190, Tryz.ntmps190
       go_wp2_with (go_at_call 183; refine H.out.mono ?_; rintro e w' ⟨rfl, hd⟩)
       go_ret2
       exact ⟨by rw [U1.out, U2.out]; rfl, hd⟩
     · have hU : ¬ upOk a b c := fun h => hl (by have := h.2; rw [← Hr.out, ← Hq.out, if_neg hz] at this; exact this)
       obtain ⟨u1, u2⟩ := up_no hU
       have U1 := Lib.hid u1; have U2 := Lib.hid u2
       clear u1 u2 hU hz
       go_enter Tryz.func190, Tryz.ntmps190
       go_wp2_with (go_at_call 183; refine H.out.mono ?_; rintro e w' ⟨rfl, k, hk⟩; subst hk; have g2 : w.cell? ⟨0, 0, none⟩ = some (.iface 288 (.pointer (some (A 2)))) := HE.out.cell 2 h2)
       go_quiet (fail)
       go_wp2
       go_ret2
       exact ⟨by rw [U1.out, U2.out]; rfl, k + nq, by simp [World.drewN, Nat.add_assoc]⟩
 · obtain ⟨y1, y2, y3⟩ := over_no hO
   have he : ev A (overC a b c) = .iface 288 (.pointer (some (A 2))) := by rw [y1]; rfl
   obtain ⟨u1, u2⟩ := up_no (a := a) (b := b) (c := c) (fun h => hO h.1)
   have U1 := Lib.hid u1; have U2 := Lib.hid u2
   clear u1 u2 hO y1
   go_enter Tryz.func190, Tryz.ntmps190
   go_wp2_with (go_at_call 183; refine H.out.mono ?_; rintro e w' ⟨rfl, hd⟩)
   go_ret2
   exact ⟨by rw [U1.out, U2.out]; rfl, hd⟩
end Go.Proofs.YtajnfkmkombajaaGreatDoor
