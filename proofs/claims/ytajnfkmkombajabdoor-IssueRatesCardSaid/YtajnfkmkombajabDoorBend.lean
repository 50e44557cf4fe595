/- Contracts of package part: Check, down, Bend. -/
import Derived.Test.YtajnfkmkombajabDoorPart
import Derived.Test.YtajnfkmkombajabDoorPlBend
import Derived.Test.YtajnfkmkombajabDoorErrIs
import Derived.Deep.DeepCutAuto
set_option linter.unusedVariables false
set_option linter.unusedSimpArgs false
namespace Go.Proofs.YtajnfkmkombajabDoor
open Go.RowKit

def CheckPost (A : Nat → Addr) (f : Nat × Int) (w : World) (e : Ending) (w' : World) : Prop := ∃ v, e = .returned v ∧ ErrIs A w w' v f ∧ Below w.heap.size w w'

theorem check_close {A : Nat → Addr} {f : Nat × Int} {c k g : Nat} {w W : World} (hf : f = (c, (k : Int))) (hg : w.heap.size ≤ g) (hb : Below w.heap.size w W) (c1 : W.cell? ⟨g, 0, none⟩ = some (.int .i64 k)) (c2 : W.cell? ⟨g, 1, none⟩ = some (ev A c)) :
    CheckPost A f w (.returned (.iface 134 (.pointer (some ⟨g, 0, none⟩)))) W := by
  subst hf
  exact ⟨_, rfl, .inr ⟨by simp, g, hg, rfl, c1, c2⟩, hb⟩

set_option maxHeartbeats 1000000 in
theorem part_Check (A : Nat → Addr) (S : List Nat) (ao : Option Addr) (len cap : Nat) (l : List (Int × Int)) (w : World) (R : RdP w ao len cap l) (hE : Errs A S w) (h2 : 2 ∈ S) (h3 : 3 ∈ S) :
    Calls Tryd.prog 60 #[.slice ao len cap] w (CheckPost A (checkF l) w) := by
  have HE := Lib.hid hE; clear hE
  by_cases hlen : len < 2 ∨ 8 < len
  · have HF := Lib.hid (checkF_out (l := l) (by rw [R.size]; exact hlen))
    have g3 : w.cell? ⟨4, 0, none⟩ = some (.iface 273 (.pointer (some (A 3)))) := HE.out.cell 3 h3
    clear R
    by_cases h1 : len < 2
    · have e1 : decide ((len : Int) < 2) = true := by simp; omega
      clear hlen
      go_enter Tryd.func60, Tryd.ntmps60
      go_wp2
      go_ret
      exact ⟨_, rfl, .inl ⟨by rw [HF.out], by rw [HF.out]; rfl⟩, Below.refl _ _⟩
    · have e1 : decide ((len : Int) < 2) = false := by simp; omega
      have e2 : decide ((8 : Int) < (len : Int)) = true := by simp; omega
      clear hlen
      go_enter Tryd.func60, Tryd.ntmps60
      go_wp2
      go_ret
      exact ⟨_, rfl, .inl ⟨by rw [HF.out], by rw [HF.out]; rfl⟩, Below.refl _ _⟩
  · rcases R.split with ⟨h0, _⟩ | ⟨h0, b, off, rfl, hb, hcell⟩
    · omega
    have e1 : decide ((len : Int) < 2) = false := by simp; omega
    have e2 : decide ((8 : Int) < (len : Int)) = false := by simp; omega
    have hl8 : (len : Int) ≤ 8 := by omega
    have Hck := Lib.hid (checkF_in (l := l) (by rw [R.size]; exact hlen))
    have Hc := Lib.hid hcell; clear hcell
    have HR := Lib.hid R; clear R
    clear hlen
    go_enter Tryd.func60, Tryd.ntmps60
    go_wp2
    go_loopw [16] (fun i wr => ∃ k : Nat, k ≤ len ∧ i = .int .i64 k ∧ Below w.heap.size w wr ∧ checkF l = chk k (prevX l k) (l.drop k)) (fun i _ => len - (intOf i).toNat)
    case atStart => exact ⟨0, Nat.zero_le _, rfl, Below.refl _ _, Hck.out⟩
    case round =>
      obtain ⟨k, hk, rfl, hbel, hck⟩ := hrel
      have HCk := Lib.hid hck; clear hck
      by_cases hlt : k < len
      · obtain ⟨c1, c2⟩ := Hc.out k hlt
        rw [← hbel.cell (p := ⟨b, off + k * 2, none⟩) hb] at c1
        rw [← hbel.cell (p := ⟨b, off + k * 2 + 1, none⟩) hb] at c2
        have hbs : b < wr.heap.size := Nat.lt_of_lt_of_le hb hbel.size
        have hEr := HE.out.below hbel
        have g2 : wr.cell? ⟨0, 0, none⟩ = some (.iface 273 (.pointer (some (A 2)))) := hEr.cell 2 h2
        have g3 : wr.cell? ⟨4, 0, none⟩ = some (.iface 273 (.pointer (some (A 3)))) := hEr.cell 3 h3
        have s2 := World.block_lt_of_cell? wr _ g2
        have s3 := World.block_lt_of_cell? wr _ g3
        simp only at s2 s3
        have HEr := Lib.hid hEr; clear hEr
        have hllen : k < l.length := by rw [HR.out.size]; exact hlt
        have Hbad := Lib.hid (chk_bad hllen)
        have Hshape := Lib.hid (chk_shape hllen)
        have Hnext := Lib.hid (chk_next hllen)
        clear hllen
        obtain ⟨p, hp⟩ : ∃ p, p = l.getD k (0, 0) := ⟨_, rfl⟩
        rw [← hp] at c1 c2 Hbad Hshape Hnext
        have Hp := Lib.hid hp; clear hp
        obtain ⟨x, y⟩ := p
        simp only at c1 c2
        rcases ptBad_cases (x := x) (y := y) with hx | hx | hx | hx | hx
        · have HPB : Hid (ptBad (x, y)) := .inl (by omega)
          go_wp2
          go_ret
          exact check_close (by rw [HCk.out, Hbad.out HPB.out]) (g := wr.heap.size + 1) (by have := hbel.size; omega) ((hbel.alloc hbel.size _).alloc (by have := hbel.size; simp; omega) _) (by simp [go_sem]) (by simp [go_sem, ev])
        · have HPB : Hid (ptBad (x, y)) := .inr (.inl (by omega))
          go_wp2
          go_ret
          exact check_close (by rw [HCk.out, Hbad.out HPB.out]) (g := wr.heap.size + 1) (by have := hbel.size; omega) ((hbel.alloc hbel.size _).alloc (by have := hbel.size; simp; omega) _) (by simp [go_sem]) (by simp [go_sem, ev])
        · have HPB : Hid (ptBad (x, y)) := .inr (.inr (.inl (by omega)))
          go_wp2
          go_ret
          exact check_close (by rw [HCk.out, Hbad.out HPB.out]) (g := wr.heap.size + 1) (by have := hbel.size; omega) ((hbel.alloc hbel.size _).alloc (by have := hbel.size; simp; omega) _) (by simp [go_sem]) (by simp [go_sem, ev])
        · have HPB : Hid (ptBad (x, y)) := .inr (.inr (.inr (by omega)))
          go_wp2
          go_ret
          exact check_close (by rw [HCk.out, Hbad.out HPB.out]) (g := wr.heap.size + 1) (by have := hbel.size; omega) ((hbel.alloc hbel.size _).alloc (by have := hbel.size; simp; omega) _) (by simp [go_sem]) (by simp [go_sem, ev])
        · have HPB : Hid (¬ ptBad (x, y)) := fun h => by rcases h with h | h | h | h <;> simp only at h <;> omega
          by_cases hk0 : k = 0
          · have HN := Lib.hid (Hnext.out HPB.out (.inl hk0))
            subst hk0
            simp only [Nat.zero_mul, Nat.add_zero] at c1 c2
            go_wp2_with fail
            go_quiet (fail)
            go_wp2
            go_roundw
            case rel => exact ⟨1, by omega, rfl, ((hbel.alloc hbel.size _)).drewN _, by rw [HCk.out, HN.out]⟩
            case measure => simp [intOf]; omega
          · obtain ⟨d1, _⟩ := Hc.out (k - 1) (by omega)
            rw [← hbel.cell (p := ⟨b, off + (k - 1) * 2, none⟩) hb] at d1
            have hk1 : (0 : Int) < (k : Int) := by omega
            have hk1n : 0 < k := by omega
            have hd0 : decide (0 < k) = true := by simp; omega
            have i1 : (0 : Int) ≤ (k : Int) - 1 := by omega
            have i2 : (k : Int) - 1 < (len : Int) := by omega
            obtain ⟨z, hz⟩ : ∃ z, z = (l.getD (k - 1) (0, 0)).1 := ⟨_, rfl⟩
            rw [← hz] at d1
            by_cases hxz : x ≤ z
            · have HS := Lib.hid (Hshape.out HPB.out (by omega) (by rw [← hz]; exact hxz))
              clear hz
              go_wp2_with fail
              go_quiet (fail)
              go_wp2
              go_ret
              exact check_close (by rw [HCk.out, HS.out]) (g := wr.heap.size + 1) (by have := hbel.size; omega) (((hbel.alloc hbel.size _).alloc (by have := hbel.size; simp; omega) _).drewN _) (by simp [go_sem]) (by simp [go_sem, ev])
            · have HN := Lib.hid (Hnext.out HPB.out (.inr (by rw [← hz]; simp only; omega)))
              clear hz
              go_wp2_with fail
              go_quiet (fail)
              go_wp2
              go_roundw
              case rel => exact ⟨k + 1, by omega, by go_num, ((hbel.alloc hbel.size _)).drewN _, by rw [HCk.out, HN.out]⟩
              case measure => simp [intOf]; omega
      · go_wp2
        go_ret
        exact ⟨_, rfl, .inl ⟨by rw [HCk.out, chk_done (by rw [HR.out.size]; omega)], by rw [HCk.out, chk_done (by rw [HR.out.size]; omega)]; rfl⟩, hbel⟩
end Go.Proofs.YtajnfkmkombajabDoor
