/- From a row's cell on listed sentinels (all ten, and errors.errorType) to what the walks ask. -/
import Derived.Test.YtajnfkmkombajaaDoorCode
import Derived.Test.YtajnfkmkombajaaDoorLaid
import Derived.LaidSub
set_option linter.unusedVariables false
set_option linter.unusedSimpArgs false
namespace Go.Proofs.YtajnfkmkombajaaDoor
open Go.RowKit Go.ChangeShapes

set_option maxRecDepth 100000 in
/-- the listed errors' own places, blocks, and that they differ -/
theorem sents_vars {W : World} (PS : List MemPlace) (hrows : ∀ b off, MemPlace.cell b off ∈ PS → (∃ c t, W.heap[b]? = some (.cells c t (0, 0))) ∧ ∀ u v, W.cell? ⟨b, off, none⟩ = some (.iface u v) → Value.okWide Tryd.prog W .any 0 u v) :
    ∀ (cs : List Nat) (l : List (String × DataW Unit)) (ps : List MemPlace), LaidAs cs l → DataW.LaidVars Tryd.prog W l ps → ps.Nodup → (∀ x ∈ ps, x ∈ PS) →
    ∃ A : Nat → Addr, (∀ c ∈ cs, W.cell? ⟨gE c, 0, none⟩ = some (ev A c)) ∧ (∀ c ∈ cs, MemPlace.cell (A c).block (A c).off ∈ ps) ∧ ∀ c ∈ cs, ∀ d ∈ cs, c ≠ d → A c ≠ A d
  | [], [], _, _, _, _, _ => ⟨fun _ => ⟨0, 0, none⟩, (fun c hc => by cases hc), (fun c hc => by cases hc), fun c hc => by cases hc⟩
  | c :: cs, (n, d) :: r, ps, ⟨⟨h0, h1, h2, h3, text, h4⟩, hr⟩, hv, hnd, hsub => by
    obtain ⟨g, t, xs, fuel, p, q, e1, e2, e3, e4, hq, rfl⟩ := hv
    simp only at h4 h2
    subst h4
    obtain rfl := Option.some.inj (h2.symm.trans e1)
    obtain rfl := Option.some.inj (h3.symm.trans e2)
    obtain ⟨l0⟩ := xs
    have ok0 : ∀ u v, l0 = [.iface u v] → Value.okWide Tryd.prog W .any 0 u v := fun u v e => by
      subst e
      exact (hrows (gE c) 0 (hsub _ (by simp [MemPlace.row]))).2 u v (by simpa using World.var?_cell e1 e3 0)
    obtain ⟨a0, s0, rfl, hc0, hs0, hz0, rfl⟩ := errorString_of_trod Tryd.underlying30 Tryd.rowErr Tryd.underlying111 Tryd.underlying113 rfl rfl Tryd.underlying9 Tryd.cellsErr Tryd.cellsStr e4 ok0
    have hnq : q.Nodup := (List.nodup_append.1 hnd).2.1
    obtain ⟨A, hA1, hA2, hA3⟩ := sents_vars PS hrows cs r q hr hq hnq (fun x hx => hsub x (by simp [hx]))
    refine ⟨fun k => if k = c then a0 else A k, fun k hk => ?_, fun k hk => ?_, fun k hk j hj hkj => ?_⟩
    · by_cases hkc : k = c
      · subst hkc
        have := World.var?_cell e1 e3 0
        rw [ev_some _ h0]
        simpa using this
      · have hk' : k ∈ cs := by simpa [hkc] using hk
        have := hA1 k hk'
        rw [this]; simp [ev, hkc]
    · by_cases hkc : k = c
      · subst hkc; simp only [if_true]; exact List.mem_append_left _ (by simp [MemPlace.row])
      · simp only [if_neg hkc]; exact List.mem_append_right _ (hA2 k (by simpa [hkc] using hk))
    · have far : ∀ m ∈ cs, A m ≠ a0 := by
        intro m hm e
        have h1 := hA2 m hm
        rw [e] at h1
        exact (List.nodup_append.1 hnd).2.2 _ (by simp [MemPlace.row]) _ h1 rfl
      by_cases hkc : k = c
      · have hjc : j ≠ c := fun e => hkj (by rw [hkc, e])
        simp only [if_pos hkc, if_neg hjc]
        exact fun e => far j (by simpa [hjc] using hj) e.symm
      · by_cases hjc : j = c
        · simp only [if_neg hkc, if_pos hjc]
          exact far k (by simpa [hkc] using hk)
        · simp only [if_neg hkc, if_neg hjc]
          exact hA3 k (by simpa [hkc] using hk) j (by simpa [hjc] using hj) hkj
  | [], _ :: _, _, h, _, _, _ => h.elim
  | _ :: _, [], _, h, _, _, _ => h.elim

def errorName : List UInt8 := [101, 114, 114, 111, 114]
theorem only_error : ((List.range Tryd.prog.types.size).all fun ty => !Tryd.prog.rowNamed ty errorName || ty == 30) = true := by kernel_rfl
theorem rtype_at : (Tryd.prog.cutTypes.find? (·.1 == "internal/reflectlite.rtype")).map (·.2) = some 147 := by kernel_rfl
theorem globals_size : Tryd.prog.globals.size = 13 := by kernel_rfl

theorem sents_of_laid {W : World} {L : List (String × DataW Unit)} (hL : laidMetH Tryd.prog L W) (h1 : LaidAs [1, 2, 3, 4, 5, 6, 7, 8, 9, 10] (L.filter fun x => x.2.handleName?.isNone))
    (h2 : ("errors.errorType", DataW.iface "internal/reflectlite.rtype" (.agg [.ptr (.lit (.string errorName))])) ∈ L) (h3 : Tryd.prog.globalNamed "errors.errorType" = some 10) : ∃ A, Sents A W := by
  obtain ⟨hm, hh⟩ := laidMetH_iff.1 hL
  obtain ⟨ps, hv, hnd, hrows⟩ := hm
  obtain ⟨A, a1, a2, a3⟩ := sents_vars ps hrows _ _ ps h1 hv hnd (fun x hx => hx)
  refine ⟨A, ⟨⟨a1⟩, ?_, fun c c1 c2 => ?_, fun c d c1 c2 d1 d2 hcd => a3 c (by simp; omega) d (by simp; omega) hcd⟩⟩
  · have := hh _ (List.mem_filter.2 ⟨h2, by rfl⟩)
    have hf : (DataW.iface (H := Unit) "internal/reflectlite.rtype" (.agg [.ptr (.lit (.string errorName))])).funcsIn? = none := by kernel_rfl
    rw [show (("errors.errorType", DataW.iface (H := Unit) "internal/reflectlite.rtype" (.agg [.ptr (.lit (.string errorName))])) : String × DataW Unit).2.funcsIn? = none from hf] at this
    obtain ⟨name, u, ty, e1, e2, e3, e4, e5⟩ := this
    have hn : name = errorName := by
      have h0 : (DataW.iface (H := Unit) "internal/reflectlite.rtype" (.agg [.ptr (.lit (.string errorName))])).handleName? = some errorName := by kernel_rfl
      exact Option.some.inj (e1.symm.trans h0)
    subst hn
    rw [rtype_at] at e2
    obtain rfl := Option.some.inj e2
    have hty : ty = 30 := by
      have := List.all_eq_true.1 only_error ty (List.mem_range.2 e3)
      rw [e4] at this
      simpa using this
    subst hty
    have := World.var?_cell h3 e5 0
    unfold ErrType
    simpa [typeHandle, globals_size] using this
  · obtain ⟨cs, t, hc⟩ := (hrows _ _ (a2 c (by simp; omega))).1
    exact ⟨cs, t, hc⟩
end Go.Proofs.YtajnfkmkombajaaDoor
