/- Evidence held against evidence. -/
import Derived.Test.YtajnfkmkombajabDoorCourtKey
import Derived.Laws.StructEq
set_option linter.unusedVariables false
set_option linter.unusedSimpArgs false
namespace Go.Proofs.YtajnfkmkombajabDoor
open Go.RowKit Go.Maps

theorem evFields : (Tryd.prog.fieldsOf 28).toList.map (fun f => (f.name, f.type, f.offset)) = [("Baker", 3, 0), ("Cycle", 3, 1), ("Number", 3, 2)] := by
  unfold Program.fieldsOf; rw [Tryd.underlying28]; rfl
theorem ev_equal (d : Nat) (x y : EV) (w : World) : (Op.equalIn (d + 2) 28 (evV x) (evV y)).run Tryd.prog w = .ok (decide (x = y)) w := by
  have hu := Tryd.underlying28
  have hui := Tryd.underlying3
  have hsz : ∀ w, (sizeOf 3).run Tryd.prog w = .ok 1 w := fun w => by kernel_rfl
  unfold evV
  rw [run_equalIn_agg _ _ _ _ _ (by unfold Program.fieldsOf; rw [hu]) (by kernel_rfl)]
  unfold Program.fieldsOf
  rw [hu]
  obtain ⟨xb, xc, xn⟩ := x
  obtain ⟨yb, yc, yn⟩ := y
  simp [Op.eqFields, part, hsz, run_equalIn_int w _ _ .i64 .i64 _ _ hui, Result.andThen]
  by_cases h1 : xb = yb
  · by_cases h2 : xc = yc
    · by_cases h3 : xn = yn
      · simp [h1, h2, h3]
      · simp [h1, h2, h3]
    · simp [h1, h2]
  · simp [h1]
theorem ev_eql (x y : EV) (w : World) : (binOp .eql 28 (evV x) (evV y)).run Tryd.prog w = .ok (.bool (decide (x = y))) w := by
  have h := ev_equal 9998 x y w
  unfold evV at h ⊢
  rw [run_eql_struct, h]; rfl
theorem ev_neq (x y : EV) (w : World) : (binOp .neq 28 (evV x) (evV y)).run Tryd.prog w = .ok (.bool (!decide (x = y))) w := by
  have h := ev_equal 9998 x y w
  unfold evV at h ⊢
  rw [run_neq_struct, h]; rfl
theorem evGuard : Tryd.prog.eqGuardType Tryd.prog.depth 28 = false := by kernel_rfl
end Go.Proofs.YtajnfkmkombajabDoor
