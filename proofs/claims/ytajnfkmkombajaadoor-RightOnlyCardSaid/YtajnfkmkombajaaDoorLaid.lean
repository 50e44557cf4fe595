/- From a row's cell on listed sentinels to what the walks ask: the errors' variables hold them. -/
import Derived.Test.YtajnfkmkombajaaDoorErr
import Derived.LaidLaws
import Derived.Stop.LaidErr
import Derived.KernelRfl
set_option linter.unusedVariables false
set_option linter.unusedSimpArgs false
namespace Go.Proofs.YtajnfkmkombajaaDoor
open Go.RowKit Go.ChangeShapes

theorem Tryd.star : "*" ++ "errors.errorString" = "*errors.errorString" := by decide +kernel
theorem Tryd.rowErr (u : TypeId) (h : Tryd.prog.typeName? 3 u = some "*errors.errorString") : u = 111 :=
  typeName_ptr_named (P := Tryd.prog) (nm := "errors.errorString") (by rw [Tryd.star]; kernel_rfl) (by kernel_rfl) (by decide) u (by rw [Tryd.star]; exact h)
theorem Tryd.cellsErr : Tryd.prog.cellsOf 113 = 1 := by kernel_rfl
theorem Tryd.cellsStr : Tryd.prog.cellsOf 9 = 1 := by kernel_rfl

/-- the listed variables are the sentinels of these numbers -/
def LaidAs : List Nat → List (String × DataW Unit) → Prop
  | [], [] => True
  | c :: cs, x :: r => (c ≠ 0 ∧ c ∉ cs ∧ Tryd.prog.globalNamed x.1 = some (gE c) ∧ (Tryd.prog.globals[gE c]?).map (·.type) = some 30 ∧ ∃ text, x.2 = .iface "*errors.errorString" (.ptr (.agg [.lit (.string text)]))) ∧ LaidAs cs r
  | _, _ => False

theorem errs_of_laid {W : World} : ∀ (cs : List Nat) (l : List (String × DataW Unit)), LaidAs cs l → laidMet Tryd.prog l W → ∃ A, Errs A cs W
  | [], [], _, _ => ⟨fun _ => ⟨0, 0, none⟩, ⟨fun c hc => by cases hc⟩⟩
  | c :: cs, (n, d) :: r, ⟨⟨h0, h1, h2, h3, text, h4⟩, hr⟩, hL => by
    obtain ⟨A, hA⟩ := errs_of_laid cs r hr hL.tail
    simp only at h4 h2
    subst h4
    obtain ⟨a, s, hv, _, _, _⟩ := laid_sentinel hL h2 h3 Tryd.underlying30 Tryd.rowErr Tryd.underlying111 Tryd.underlying113 rfl rfl Tryd.underlying9 Tryd.cellsErr Tryd.cellsStr
    refine ⟨fun k => if k = c then a else A k, ⟨fun k hk => ?_⟩⟩
    by_cases hkc : k = c
    · subst hkc
      have := World.var?_cell h2 hv 0
      rw [ev_some _ h0]
      simpa using this
    · have hk' : k ∈ cs := by simpa [hkc] using hk
      have := hA.cell k hk'
      rw [this]; simp [ev, hkc]
  | [], _ :: _, h, _ => h.elim
  | _ :: _, [], h, _ => h.elim
end Go.Proofs.YtajnfkmkombajaaDoor
