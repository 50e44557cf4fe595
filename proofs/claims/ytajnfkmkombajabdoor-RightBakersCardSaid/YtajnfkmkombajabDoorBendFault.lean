/- Contract of the reference's BendFault. -/
import Derived.Test.YtajnfkmkombajabDoorBend
import Derived.Laws.Rows
import Derived.KernelRfl
set_option linter.unusedVariables false
set_option linter.unusedSimpArgs false
namespace Go.Proofs.YtajnfkmkombajabDoor
open Go.RowKit

/-- a struct of two handed back by value out of its own block -/
theorem ret_pair {P : Program} {fn : Func} {p : Tmp} {ty : TypeId} (h : fn.results = #[.cell p ty]) (tmps : Array Value) (w : World) (g : Nat) (t : TypeId) (x y : Value) (fr : Nat × Nat) (d : TypeDesc)
    (hp : tmps.getD p undef = .pointer (some ⟨g, 0, none⟩)) (hg : w.heap[g]? = some (.cells #[x, y] t fr))
    (hu : P.underlying ty = some d) (hd : (match d with | .struct _ | .array _ _ => true | _ => false) = true) (hi : (P.info? ty).map (·.size) = some 2) :
    (results fn tmps).run P w = .ok (.agg #[x, y]) w := results_cell_row h tmps w g t #[x, y] fr d hp hg hu hd hi

theorem heap_two (w : World) (A B : Obj) : ((w.alloc A).alloc B).heap[w.heap.size]? = some A := by
  show ((w.heap.push A).push B)[w.heap.size]? = some A
  rw [Array.getElem?_push, if_neg (by simp), Array.getElem?_push, if_pos rfl]
theorem heap_drewN (w : World) (A : Obj) (n : Nat) : ((w.alloc A).drewN n).heap[w.heap.size]? = some A := heap_alloc_new w A
theorem heap_drewN2 (w : World) (A B : Obj) (n : Nat) : (((w.alloc A).drewN n).alloc B).heap[w.heap.size]? = some A := heap_two w A B

@[go_sem] theorem drewN_setCell (w : World) (n : Nat) (a : Addr) (v : Value) : (w.drewN n).setCell a v = (w.setCell a v).drewN n := by
  simp only [World.drewN, World.setCell]

theorem ref_Fine (w : World) : Calls Tryd.prog 122 #[] w fun e w' => e = .returned (.agg #[.int .i64 0, .int .i64 (-1)]) ∧ w' = w.alloc (.cells #[.int .i64 0, .int .i64 (-1)] 72) := by
  go_enter Tryd.func122, Tryd.ntmps122
  go_wp2
  (try simp only [Exit.inBlock, Exit.then])
  refine bodyPost_ret (v := .agg #[.int .i64 0, .int .i64 (-1)]) (ret_pair rfl _ _ w.heap.size _ _ _ _ _ rfl (heap_alloc_new _ _) Tryd.underlying72 rfl (by kernel_rfl)) rfl ?_
  exact ⟨rfl, rfl⟩
theorem ref_Bare (c : Int) (w : World) : Calls Tryd.prog 61 #[.int .i64 c] w fun e w' => e = .returned (.agg #[.int .i64 c, .int .i64 (-1)]) ∧ w' = w.alloc (.cells #[.int .i64 c, .int .i64 (-1)] 72) := by
  go_enter Tryd.func61, Tryd.ntmps61
  go_wp2
  (try simp only [Exit.inBlock, Exit.then])
  refine bodyPost_ret (v := .agg #[.int .i64 c, .int .i64 (-1)]) (ret_pair rfl _ _ w.heap.size _ _ _ _ _ rfl (heap_alloc_new _ _) Tryd.underlying72 rfl (by kernel_rfl)) rfl ?_
  exact ⟨rfl, rfl⟩

def FaultPost (l : List (Int × Int)) (w : World) (e : Ending) (w' : World) : Prop := e = .returned (.agg #[.int .i64 (checkF l).1, .int .i64 (checkF l).2]) ∧ Below w.heap.size w w'
theorem fault_close {l : List (Int × Int)} {w W : World} {c : Nat} {k : Int} (h : checkF l = (c, k)) (hb : Below w.heap.size w W) : FaultPost l w (.returned (.agg #[.int .i64 c, .int .i64 k])) W := by
  unfold FaultPost; rw [h]; exact ⟨rfl, hb⟩

set_option maxHeartbeats 1000000 in
set_option maxRecDepth 8000 in
theorem ref_BendFault (ao : Option Addr) (len cap : Nat) (l : List (Int × Int)) (w : World) (R : RdP w ao len cap l) :
    Calls Tryd.prog 59 #[.slice ao len cap] w (FaultPost l w) := by
  by_cases hlen : len < 2 ∨ 8 < len
  · have HF := Lib.hid (checkF_out (l := l) (by rw [R.size]; exact hlen))
    clear R
    by_cases h1 : len < 2
    · have e1 : decide ((len : Int) < 2) = true := by simp; omega
      clear hlen
      go_enter Tryd.func59, Tryd.ntmps59
      go_wp2_with (go_at_call 61; refine (ref_Bare _ _).mono ?_; rintro e w' ⟨rfl, rfl⟩)
      (try simp only [Exit.inBlock, Exit.then])
      refine bodyPost_ret (v := .agg #[.int .i64 3, .int .i64 (-1)]) (ret_pair rfl _ _ w.heap.size _ _ _ _ _ rfl (by first | exact heap_two _ _ _ | exact heap_drewN _ _ _ | exact heap_drewN2 _ _ _ _ | exact heap_alloc_new _ _) Tryd.underlying72 rfl (by kernel_rfl)) rfl (fault_close (c := 3) HF.out (((Below.refl _ _).alloc (Nat.le_refl _) _).alloc (by simp) _))
    · have e1 : decide ((len : Int) < 2) = false := by simp; omega
      have e2 : decide ((8 : Int) < (len : Int)) = true := by simp; omega
      clear hlen
      go_enter Tryd.func59, Tryd.ntmps59
      go_wp2_with (go_at_call 61; refine (ref_Bare _ _).mono ?_; rintro e w' ⟨rfl, rfl⟩)
      (try simp only [Exit.inBlock, Exit.then])
      refine bodyPost_ret (v := .agg #[.int .i64 3, .int .i64 (-1)]) (ret_pair rfl _ _ w.heap.size _ _ _ _ _ rfl (by first | exact heap_two _ _ _ | exact heap_drewN _ _ _ | exact heap_drewN2 _ _ _ _ | exact heap_alloc_new _ _) Tryd.underlying72 rfl (by kernel_rfl)) rfl (fault_close (c := 3) HF.out (((Below.refl _ _).alloc (Nat.le_refl _) _).alloc (by simp) _))
  · rcases R.split with ⟨h0, _⟩ | ⟨h0, b, off, rfl, hb, hcell⟩
    · omega
    have e1 : decide ((len : Int) < 2) = false := by simp; omega
    have e2 : decide ((8 : Int) < (len : Int)) = false := by simp; omega
    have hl8 : (len : Int) ≤ 8 := by omega
    have Hck := Lib.hid (checkF_in (l := l) (by rw [R.size]; exact hlen))
    have Hc := Lib.hid hcell; clear hcell
    have HR := Lib.hid R; clear R
    clear hlen
    go_enter Tryd.func59, Tryd.ntmps59
    go_wp2
    go_loopw [3] (fun i wr => ∃ k : Nat, k ≤ len ∧ i = .int .i64 k ∧ (∃ d, wr = (w.alloc (.cells #[.int .i64 0, .int .i64 0] 72)).drewN d) ∧ checkF l = chk k (prevX l k) (l.drop k)) (fun i _ => len - (intOf i).toNat)
    case atStart => exact ⟨0, Nat.zero_le _, rfl, ⟨0, rfl⟩, Hck.out⟩
    case round =>
      obtain ⟨k, hk, rfl, ⟨d, rfl⟩, hck⟩ := hrel
      have HCk := Lib.hid hck; clear hck
      by_cases hlt : k < len
      · obtain ⟨c1, c2⟩ := Hc.out k hlt
        have hllen : k < l.length := by rw [HR.out.size]; exact hlt
        have Hbad := Lib.hid (chk_bad hllen)
        have Hshape := Lib.hid (chk_shape hllen)
        have Hnext := Lib.hid (chk_next hllen)
        clear hllen
        obtain ⟨p, hp⟩ : ∃ p, p = l.getD k (0, 0) := ⟨_, rfl⟩
        rw [← hp] at c1 c2 Hbad Hshape Hnext
        have Hp := Lib.hid hp; clear hp
        obtain ⟨x, y⟩ := p
        simp only at c1 c2
        rcases ptBad_cases (x := x) (y := y) with hx | hx | hx | hx | hx
        · have HPB : Hid (ptBad (x, y)) := .inl (by omega)
          go_wp2
          (try simp only [Exit.inBlock, Exit.then])
          refine bodyPost_ret (v := .agg #[.int .i64 2, .int .i64 k]) (ret_pair rfl _ _ w.heap.size _ _ _ _ _ rfl (by first | exact heap_two _ _ _ | exact heap_drewN _ _ _ | exact heap_drewN2 _ _ _ _ | exact heap_alloc_new _ _) Tryd.underlying72 rfl (by kernel_rfl)) rfl (fault_close (c := 2) (by rw [HCk.out, Hbad.out HPB.out]) (by first | exact (((Below.refl _ _).alloc (Nat.le_refl _) _).drewN _) | exact ((((Below.refl _ _).alloc (Nat.le_refl _) _).drewN _).alloc (by simp) _)))
        · have HPB : Hid (ptBad (x, y)) := .inr (.inl (by omega))
          go_wp2
          (try simp only [Exit.inBlock, Exit.then])
          refine bodyPost_ret (v := .agg #[.int .i64 2, .int .i64 k]) (ret_pair rfl _ _ w.heap.size _ _ _ _ _ rfl (by first | exact heap_two _ _ _ | exact heap_drewN _ _ _ | exact heap_drewN2 _ _ _ _ | exact heap_alloc_new _ _) Tryd.underlying72 rfl (by kernel_rfl)) rfl (fault_close (c := 2) (by rw [HCk.out, Hbad.out HPB.out]) (by first | exact (((Below.refl _ _).alloc (Nat.le_refl _) _).drewN _) | exact ((((Below.refl _ _).alloc (Nat.le_refl _) _).drewN _).alloc (by simp) _)))
        · have HPB : Hid (ptBad (x, y)) := .inr (.inr (.inl (by omega)))
          go_wp2
          (try simp only [Exit.inBlock, Exit.then])
          refine bodyPost_ret (v := .agg #[.int .i64 2, .int .i64 k]) (ret_pair rfl _ _ w.heap.size _ _ _ _ _ rfl (by first | exact heap_two _ _ _ | exact heap_drewN _ _ _ | exact heap_drewN2 _ _ _ _ | exact heap_alloc_new _ _) Tryd.underlying72 rfl (by kernel_rfl)) rfl (fault_close (c := 2) (by rw [HCk.out, Hbad.out HPB.out]) (by first | exact (((Below.refl _ _).alloc (Nat.le_refl _) _).drewN _) | exact ((((Below.refl _ _).alloc (Nat.le_refl _) _).drewN _).alloc (by simp) _)))
        · have HPB : Hid (ptBad (x, y)) := .inr (.inr (.inr (by omega)))
          go_wp2
          (try simp only [Exit.inBlock, Exit.then])
          refine bodyPost_ret (v := .agg #[.int .i64 2, .int .i64 k]) (ret_pair rfl _ _ w.heap.size _ _ _ _ _ rfl (by first | exact heap_two _ _ _ | exact heap_drewN _ _ _ | exact heap_drewN2 _ _ _ _ | exact heap_alloc_new _ _) Tryd.underlying72 rfl (by kernel_rfl)) rfl (fault_close (c := 2) (by rw [HCk.out, Hbad.out HPB.out]) (by first | exact (((Below.refl _ _).alloc (Nat.le_refl _) _).drewN _) | exact ((((Below.refl _ _).alloc (Nat.le_refl _) _).drewN _).alloc (by simp) _)))
        · have HPB : Hid (¬ ptBad (x, y)) := fun h => by rcases h with h | h | h | h <;> simp only at h <;> omega
          by_cases hk0 : k = 0
          · have HN := Lib.hid (Hnext.out HPB.out (.inl hk0))
            subst hk0
            simp only [Nat.zero_mul, Nat.add_zero] at c1 c2
            go_wp2_with fail
            go_quiet (fail)
            go_wp2
            go_roundw
            case rel => exact ⟨1, by omega, rfl, ⟨_, rfl⟩, by rw [HCk.out, HN.out]⟩
            case measure => simp [intOf]; omega
          · obtain ⟨d1, _⟩ := Hc.out (k - 1) (by omega)
            have hk1 : (0 : Int) < (k : Int) := by omega
            have hk1n : 0 < k := by omega
            have hd0 : decide (0 < k) = true := by simp; omega
            have i1 : (0 : Int) ≤ (k : Int) - 1 := by omega
            have i2 : (k : Int) - 1 < (len : Int) := by omega
            obtain ⟨z, hz⟩ : ∃ z, z = (l.getD (k - 1) (0, 0)).1 := ⟨_, rfl⟩
            rw [← hz] at d1
            by_cases hxz : x ≤ z
            · have HS := Lib.hid (Hshape.out HPB.out (by omega) (by rw [← hz]; exact hxz))
              clear hz
              go_wp2_with fail
              go_quiet (fail)
              go_wp2
              (try simp only [Exit.inBlock, Exit.then])
              refine bodyPost_ret (v := .agg #[.int .i64 3, .int .i64 k]) (ret_pair rfl _ _ w.heap.size _ _ _ _ _ rfl (by first | exact heap_two _ _ _ | exact heap_drewN _ _ _ | exact heap_drewN2 _ _ _ _ | exact heap_alloc_new _ _) Tryd.underlying72 rfl (by kernel_rfl)) rfl (fault_close (c := 3) (by rw [HCk.out, HS.out]) (by first | exact (((Below.refl _ _).alloc (Nat.le_refl _) _).drewN _) | exact ((((Below.refl _ _).alloc (Nat.le_refl _) _).drewN _).alloc (by simp) _)))
            · have HN := Lib.hid (Hnext.out HPB.out (.inr (by rw [← hz]; simp only; omega)))
              clear hz
              go_wp2_with fail
              go_quiet (fail)
              go_wp2
              go_roundw
              case rel => exact ⟨k + 1, by omega, by go_num, ⟨_, rfl⟩, by rw [HCk.out, HN.out]⟩
              case measure => simp [intOf]; omega
      · go_wp2_with (go_at_call 122; refine (ref_Fine _).mono ?_; rintro e w' ⟨rfl, rfl⟩)
        (try simp only [Exit.inBlock, Exit.then])
        refine bodyPost_ret (v := .agg #[.int .i64 0, .int .i64 (-1)]) (ret_pair rfl _ _ w.heap.size _ _ _ _ _ rfl (by first | exact heap_two _ _ _ | exact heap_drewN _ _ _ | exact heap_drewN2 _ _ _ _ | exact heap_alloc_new _ _) Tryd.underlying72 rfl (by kernel_rfl)) rfl (fault_close (c := 0) (by rw [HCk.out, chk_done (by rw [HR.out.size]; omega)]) (by first | exact (((Below.refl _ _).alloc (Nat.le_refl _) _).drewN _) | exact ((((Below.refl _ _).alloc (Nat.le_refl _) _).drewN _).alloc (by simp) _)))
end Go.Proofs.YtajnfkmkombajabDoor
