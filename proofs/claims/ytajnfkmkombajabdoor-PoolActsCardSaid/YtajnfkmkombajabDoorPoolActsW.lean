/- The walk of PoolActs. -/
import Derived.Test.YtajnfkmkombajabDoorPooled
import Derived.Test.YtajnfkmkombajabDoorRefPool3
import Derived.Test.YtajnfkmkombajabDoorOpenA
import Derived.Test.YtajnfkmkombajabDoorCoded1
import Derived.Deep.RegionWith
import Derived.Deep.RegionHeld3
import Derived.Deep.DeepCutAuto
import Derived.Deep.CutBlock
import Derived.Deep.LoopGhost
import Derived.Deep.QuietTactic
import Derived.BigQuiet
set_option linter.unusedVariables false
set_option linter.unusedSimpArgs false
namespace Go.Proofs.YtajnfkmkombajabDoor
open Go.RowKit

theorem joinQ_le {q : QS} {o n : Int} : (q.joinOp o n).1 ≤ 10 := by
  unfold QS.joinOp; repeat' split
  all_goals simp only; omega
theorem takeQ_le {q : QS} {o n : Int} : (q.takeOp o n).1 ≤ 10 := by
  unfold QS.takeOp; repeat' split
  all_goals simp only; omega
theorem leaveQ_le {q : QS} {o : Int} : (q.leaveOp o).2.1 ≤ 10 := by
  unfold QS.leaveOp; repeat' split
  all_goals simp only; omega
theorem addQ_le {q : QS} {n : Int} : (q.addOp n).1 ≤ 10 := by
  unfold QS.addOp; repeat' split
  all_goals simp only; omega
theorem slashQ_le {q : QS} {n : Int} : (q.slashOp n).2.1 ≤ 10 := by
  unfold QS.slashOp; repeat' split
  all_goals simp only; omega

/-- both pools hold q; within an act its own box g stands (the law's pool holds p, the document's q) -/
structure PActW (W : World) (b mb n rb rs g : Nat) (o N : Int) (p q : QS) (w : World) : Prop where
  pool : PoolAt b mb n p w
  ref : RPoolAt rb rs 6 q w
  below : Below W.heap.size W w
  nb : W.heap.size ≤ b ∧ W.heap.size ≤ mb ∧ W.heap.size ≤ rb ∧ W.heap.size ≤ rs
  ne : b ≠ rb ∧ b ≠ rs ∧ mb ≠ rb ∧ mb ≠ rs
  gne : g ≠ b ∧ g ≠ mb ∧ g ≠ rb ∧ g ≠ rs
  glt : g < w.heap.size
  c1 : w.cell? ⟨g, 1, none⟩ = some (.int .i64 o)
  c2 : w.cell? ⟨g, 2, none⟩ = some (.int .i64 N)
structure PActs (W : World) (b mb n rb rs : Nat) (q : QS) (w : World) : Prop where
  pool : PoolAt b mb n q w
  ref : RPoolAt rb rs 6 q w
  below : Below W.heap.size W w
  nb : W.heap.size ≤ b ∧ W.heap.size ≤ mb ∧ W.heap.size ≤ rb ∧ W.heap.size ≤ rs
  ne : b ≠ rb ∧ b ≠ rs ∧ mb ≠ rb ∧ mb ≠ rs
section
variable {W w w' : World} {b mb n m rb rs g : Nat} {o N : Int} {p p' q q' : QS}
theorem PActW.drewN (h : PActW W b mb n rb rs g o N p q w) (k : Nat) : PActW W b mb n rb rs g o N p q (w.drewN k) :=
  ⟨h.pool.drewN k, h.ref.drewN k, h.below.drewN k, h.nb, h.ne, h.gne, h.glt, h.c1, h.c2⟩
theorem PActW.law (h : PActW W b mb n rb rs g o N p q w) (k : PoolP b mb m p' w w') : PActW W b mb m rb rs g o N p' q w' :=
  ⟨k.2, h.ref.keep k.1 (fun e => e.elim (fun e => h.ne.1 e.symm) (fun e => h.ne.2.2.1 e.symm)) (fun e => e.elim (fun e => h.ne.2.1 e.symm) (fun e => h.ne.2.2.2 e.symm)), Keep.after h.below k.1 (fun i hi => by have := h.nb; rcases hi with e | e <;> omega), h.nb, h.ne, h.gne, Nat.lt_of_lt_of_le h.glt k.1.size,
    by rw [k.1.cell (p := ⟨g, 1, none⟩) h.glt (fun e => e.elim h.gne.1 h.gne.2.1)]; exact h.c1, by rw [k.1.cell (p := ⟨g, 2, none⟩) h.glt (fun e => e.elim h.gne.1 h.gne.2.1)]; exact h.c2⟩
theorem PActW.doc (h : PActW W b mb n rb rs g o N p q w) (k : RPoolP rb rs 6 q' w w') : PActW W b mb n rb rs g o N p q' w' :=
  ⟨h.pool.keep k.1 (fun e => e.elim h.ne.1 h.ne.2.1) (fun e => e.elim h.ne.2.2.1 h.ne.2.2.2), k.2, Keep.after h.below k.1 (fun i hi => by have := h.nb; rcases hi with e | e <;> omega), h.nb, h.ne, h.gne, Nat.lt_of_lt_of_le h.glt k.1.size,
    by rw [k.1.cell (p := ⟨g, 1, none⟩) h.glt (fun e => e.elim h.gne.2.2.1 h.gne.2.2.2)]; exact h.c1, by rw [k.1.cell (p := ⟨g, 2, none⟩) h.glt (fun e => e.elim h.gne.2.2.1 h.gne.2.2.2)]; exact h.c2⟩
theorem PActW.next (h : PActW W b mb n rb rs g o N p q w) (k : Below w.heap.size w w') : PActW W b mb n rb rs g o N p q w' :=
  have K : Keep (fun _ => False) w w' := Keep.of_below k
  ⟨h.pool.keep K id id, h.ref.keep K id id, btrans h.below k, h.nb, h.ne, h.gne, Nat.lt_of_lt_of_le h.glt k.size, by rw [K.cell (p := ⟨g, 1, none⟩) h.glt id]; exact h.c1, by rw [K.cell (p := ⟨g, 2, none⟩) h.glt id]; exact h.c2⟩
theorem PActW.acts (h : PActW W b mb n rb rs g o N q q w) : PActs W b mb n rb rs q w := ⟨h.pool, h.ref, h.below, h.nb, h.ne⟩
theorem PActs.drewN (h : PActs W b mb n rb rs q w) (k : Nat) : PActs W b mb n rb rs q (w.drewN k) := ⟨h.pool.drewN k, h.ref.drewN k, h.below.drewN k, h.nb, h.ne⟩
theorem PActs.dr (h : PActs W b mb n rb rs q w) (k : Dr w w') : PActs W b mb n rb rs q w' := by obtain ⟨j, rfl⟩ := k; exact h.drewN j
theorem PActs.begin (h : PActs W b mb n rb rs q w) (s : Value) (o N : Int) (t : TypeId) : PActW W b mb n rb rs w.heap.size o N q q (w.alloc (.cells #[s, .int .i64 o, .int .i64 N] t)) := by
  have K : Keep (fun _ => False) w (w.alloc (.cells #[s, .int .i64 o, .int .i64 N] t)) := (Keep.refl _ _).alloc _
  have h1 := h.pool.lt; have h2 := h.ref.lt
  have hn := heap_alloc_new w (.cells #[s, .int .i64 o, .int .i64 N] t)
  exact ⟨h.pool.keep K id id, h.ref.keep K id id, h.below.alloc h.below.size _, h.nb, h.ne, by omega, by simp, by unfold World.cell?; rw [hn]; simp, by unfold World.cell?; rw [hn]; simp⟩
end

set_option maxRecDepth 8000 in
set_option maxHeartbeats 2000000 in
theorem pacts_walk (A : Nat → Addr) (a0 : Option Addr) (len0 cap0 : Nat) (l0 : List ActA) (w : World) (hS : Sents A w) (R0 : RdR ActA.enc 3 w a0 len0 cap0 l0) (hl : len0 ≤ 100) :
    Calls Tryd.prog 11 #[.slice a0 len0 cap0] w fun e w' => e = .returned (.bool true) ∧ Below w.heap.size w w' := by
  have HS := Lib.hid hS; clear hS
  have HR0 := Lib.hid R0; clear R0
  have m2 : (2 : Nat) ∈ [1, 2, 3, 4, 5, 6, 7, 8, 9, 10] := by decide
  have m4 : (4 : Nat) ∈ [1, 2, 3, 4, 5, 6, 7, 8, 9, 10] := by decide
  have m6 : (6 : Nat) ∈ [1, 2, 3, 4, 5, 6, 7, 8, 9, 10] := by decide
  have m7 : (7 : Nat) ∈ [1, 2, 3, 4, 5, 6, 7, 8, 9, 10] := by decide
  have m8 : (8 : Nat) ∈ [1, 2, 3, 4, 5, 6, 7, 8, 9, 10] := by decide
  have d1 : decide ((100 : Int) < (len0 : Int)) = false := by simp; omega
  go_enter Tryd.func11, Tryd.ntmps11
  go_wp2_with fail
  refine (law_joined A _ _ HS.out.errs m2 m4 m7 m8).mono ?_
  rintro e w0 ⟨rfl, hb0⟩
  go_wp2_with fail
  refine (pool_New _).mono ?_
  rintro e w1 ⟨mb, rfl, hb1, hmb, hp1⟩
  go_wp2_with fail
  refine (refq_New _).mono ?_
  rintro e w2 ⟨rb, rs, rfl, hb2, hr1, hr2, hrp⟩
  have hs1 := hb1.size; have hs0 := hb0.size; have hpl := hp1.lt
  have b01 := btrans hb0 hb1
  have A0 := Lib.hid (show PActs w (w0.heap.size + 1) mb 0 rb rs QS.new w2 from ⟨hp1.keep (Keep.of_below hb2 : Keep (fun _ => False) _ _) id id, hrp, btrans b01 hb2, by omega, by omega⟩)
  clear hp1 hb1 hb2 hr1 hr2 hrp hs1 hs0 hpl b01 hb0 hmb
  generalize w0.heap.size + 1 = b at *
  go_wp2_with fail
  go_loopg [6] len0 (fun g i wr => ∃ (k : Nat) (q : QS), PActs w b mb k rb rs q wr ∧ g + k = len0 ∧ i = .int .i64 k)
  case atStart => exact ⟨0, QS.new, A0.out, rfl, rfl⟩
  case round =>
    clear A0
    obtain ⟨k, q, L, hg, rfl⟩ := hrel
    by_cases hlt : k < len0
    · obtain ⟨x, hx⟩ : ∃ x, l0[k]? = some x := ⟨_, List.getElem?_eq_getElem (by rw [HR0.out.size]; exact hlt)⟩
      obtain ⟨bb, off, rfl, hbl, hcs⟩ := (HR0.out.below L.below).cells k x hx
      have c0 := hcs 0 (by decide)
      have c1 := hcs 1 (by decide)
      have c2 := hcs 2 (by decide)
      simp only [ActA.enc, List.getElem?_cons_zero, List.getElem?_cons_succ, Nat.add_zero] at c0 c1 c2
      have hG := Lib.hid hg; clear hg hcs hx
      obtain ⟨s, o, n⟩ := x
      simp only at c0 c1 c2
      have hkm : k < maxLen := by unfold maxLen; omega
      have HKM := Lib.hid hkm; clear hkm
      have HA := Lib.hid (L.begin (.string s) o n 57); clear L
      go_upto_block 2 with fail
      go_cut [6] (fun s6 wx => s6 = .int .i64 k ∧ ∃ q' : QS, PActs w b mb (k + 1) rb rs q' wx)
      case first =>
        by_cases m20 : (s.toList == [106, 111, 105, 110]) = true
        · go_wp2_with fail
          go_region_held3 (fun w' => w'.cell? ⟨wr.heap.size, 1, none⟩ = some (.int .i64 o) ∧ w'.cell? ⟨wr.heap.size, 2, none⟩ = some (.int .i64 n)) (first | exact ⟨H1.out.c1, H1.out.c2⟩ | exact ⟨H2.out.c1, H2.out.c2⟩ | exact ⟨H3.out.c1, H3.out.c2⟩ | exact ⟨HA.out.c1, HA.out.c2⟩)
            (first
              | (go_at_call 81; refine (pool_Join A [1, 2, 3, 4, 5, 6, 7, 8, 9, 10] b mb k q o n _ (HS.out.below (HA.out.drewN 1).below).errs m2 m7 m8 (HA.out.drewN 1).pool HKM.out).mono ?_; rintro e wa ⟨rfl, ka⟩; have H1 := Lib.hid ((HA.out.drewN 1).law ka))
              | (go_at_call 82; refine (refq_Join rb rs 6 q o n _ H1.out.ref).mono ?_; rintro e wb ⟨rfl, kb⟩; have H2 := Lib.hid (H1.out.doc kb))
              | (go_at_call 26; refine (law1_coded A _ joinQ_le _ (HS.out.below H2.out.below)).mono ?_; rintro e wc ⟨rfl, kc⟩; have H3 := Lib.hid (H2.out.next kc)))
          go_wp2_with fail
          go_meet
          case rel => exact ⟨rfl, _, H3.out.acts⟩
        · have n20 : (s.toList == [106, 111, 105, 110]) = false := by simpa using m20
          clear m20
          by_cases m21 : (s.toList == [116, 97, 107, 101]) = true
          · go_wp2_with fail
            go_region_held3 (fun w' => w'.cell? ⟨wr.heap.size, 1, none⟩ = some (.int .i64 o) ∧ w'.cell? ⟨wr.heap.size, 2, none⟩ = some (.int .i64 n)) (first | exact ⟨H1.out.c1, H1.out.c2⟩ | exact ⟨H2.out.c1, H2.out.c2⟩ | exact ⟨H3.out.c1, H3.out.c2⟩ | exact ⟨HA.out.c1, HA.out.c2⟩)
              (first
                | (go_at_call 83; refine (pool_Take A [1, 2, 3, 4, 5, 6, 7, 8, 9, 10] b mb k q o n _ (HS.out.below (HA.out.drewN 1).below).errs m2 m6 (HA.out.drewN 1).pool HKM.out).mono ?_; rintro e wa ⟨rfl, ka⟩; have H1 := Lib.hid ((HA.out.drewN 1).law ka))
                | (go_at_call 84; refine (refq_Take rb rs 6 q o n _ H1.out.ref).mono ?_; rintro e wb ⟨rfl, kb⟩; have H2 := Lib.hid (H1.out.doc kb))
                | (go_at_call 26; refine (law1_coded A _ takeQ_le _ (HS.out.below H2.out.below)).mono ?_; rintro e wc ⟨rfl, kc⟩; have H3 := Lib.hid (H2.out.next kc)))
            go_wp2_with fail
            go_meet
            case rel => exact ⟨rfl, _, H3.out.acts⟩
          · have n21 : (s.toList == [116, 97, 107, 101]) = false := by simpa using m21
            clear m21
            by_cases m22 : (s.toList == [108, 101, 97, 118, 101]) = true
            · have e1 := HA.out.c1; have e2 := HA.out.c2
              go_wp2_with fail
              refine (pool_Leave A [1, 2, 3, 4, 5, 6, 7, 8, 9, 10] b mb k q o _ (HS.out.below HA.out.below).errs m2 m4 HA.out.pool HKM.out).mono ?_
              rintro e wa ⟨rfl, ka⟩
              have H1 := Lib.hid (HA.out.law ka); clear ka e1 e2
              have e1 := H1.out.c1; have e2 := H1.out.c2
              go_wp2_with fail
              refine (refq_Leave rb rs 6 q o _ H1.out.ref).mono ?_
              rintro e wb ⟨rfl, kb⟩
              have H2 := Lib.hid (H1.out.doc kb); clear kb e1 e2
              have hvv : ((q.leaveOp o).1 != (q.leaveOp o).1) = false := bne_self_eq_false _
              go_wp2_with fail
              refine (law1_coded A _ leaveQ_le _ (HS.out.below H2.out.below)).mono ?_
              rintro e wc ⟨rfl, kc⟩
              have H3 := Lib.hid (H2.out.next kc); clear kc
              go_wp2_with fail
              go_meet
              case rel => exact ⟨rfl, _, H3.out.acts⟩
            · have n22 : (s.toList == [108, 101, 97, 118, 101]) = false := by simpa using m22
              clear m22
              by_cases m23 : (s.toList == [97, 100, 100]) = true
              · go_wp2_with fail
                go_region_held3 (fun w' => w'.cell? ⟨wr.heap.size, 1, none⟩ = some (.int .i64 o) ∧ w'.cell? ⟨wr.heap.size, 2, none⟩ = some (.int .i64 n)) (first | exact ⟨H1.out.c1, H1.out.c2⟩ | exact ⟨H2.out.c1, H2.out.c2⟩ | exact ⟨H3.out.c1, H3.out.c2⟩ | exact ⟨HA.out.c1, HA.out.c2⟩)
                  (first
                    | (go_at_call 87; refine (pool_Add A [1, 2, 3, 4, 5, 6, 7, 8, 9, 10] b mb k q n _ (HS.out.below (HA.out.drewN 1).below).errs m2 m4 (HA.out.drewN 1).pool).mono ?_; rintro e wa ⟨rfl, ka⟩; have H1 := Lib.hid ((HA.out.drewN 1).law ka))
                    | (go_at_call 88; refine (refq_Add rb rs 6 q n _ H1.out.ref).mono ?_; rintro e wb ⟨rfl, kb⟩; have H2 := Lib.hid (H1.out.doc kb))
                    | (go_at_call 26; refine (law1_coded A _ addQ_le _ (HS.out.below H2.out.below)).mono ?_; rintro e wc ⟨rfl, kc⟩; have H3 := Lib.hid (H2.out.next kc)))
                go_wp2_with fail
                go_meet
                case rel => exact ⟨rfl, _, H3.out.acts⟩
              · have n23 : (s.toList == [97, 100, 100]) = false := by simpa using m23
                clear m23
                have e1 := HA.out.c1; have e2 := HA.out.c2
                go_wp2_with fail
                refine (pool_Slash A [1, 2, 3, 4, 5, 6, 7, 8, 9, 10] b mb k q n _ (HS.out.below HA.out.below).errs m2 HA.out.pool).mono ?_
                rintro e wa ⟨rfl, ka⟩
                have H1 := Lib.hid (HA.out.law ka); clear ka e1 e2
                have e1 := H1.out.c1; have e2 := H1.out.c2
                go_wp2_with fail
                refine (refq_Slash rb rs 6 q n _ H1.out.ref).mono ?_
                rintro e wb ⟨rfl, kb⟩
                have H2 := Lib.hid (H1.out.doc kb); clear kb e1 e2
                have hvv : ((q.slashOp n).1 != (q.slashOp n).1) = false := bne_self_eq_false _
                go_wp2_with fail
                refine (law1_coded A _ slashQ_le _ (HS.out.below H2.out.below)).mono ?_
                rintro e wc ⟨rfl, kc⟩
                have H3 := Lib.hid (H2.out.next kc); clear kc
                go_wp2_with fail
                go_meet
                case rel => exact ⟨rfl, _, H3.out.acts⟩
      case rest =>
        clear HA
        obtain ⟨rfl, q', L2⟩ := hcut
        have HL2 := Lib.hid L2; clear L2
        have HT := Lib.hid (fun wx hw => pool_Total b mb (k + 1) q' wx hw)
        have HAl := Lib.hid (fun wx hw => pool_All b mb (k + 1) q' wx hw)
        have HRA := Lib.hid (fun wx hw => refq_All rb rs 6 q' wx hw)
        have ct := HL2.out.ref.c0
        have nt : (q'.total != q'.total) = false := bne_self_eq_false _
        have na : (q'.all != q'.all) = false := bne_self_eq_false _
        go_wp2_with fail
        go_quiet ((first
          | (go_at_call 91; exact Calls.quiet_of_same ((HT.out _ (HL2.out.drewN _).pool).mono fun _ _ ⟨a, b⟩ => ⟨a, b.symm⟩))
          | (go_at_call 92; exact Calls.quiet_of_same ((HAl.out _ (HL2.out.drewN _).pool).mono fun _ _ ⟨a, b⟩ => ⟨a, b.symm⟩))
          | (go_at_call 93; exact Calls.quiet_of_same ((HRA.out _ (HL2.out.drewN _).ref).mono fun _ _ ⟨a, b⟩ => ⟨a, b.symm⟩))))
        go_wp2_with fail
        clear ct nt na HT HAl HRA
        go_loopw [16] (fun i wx => ∃ j : Int, -1 ≤ j ∧ j ≤ 7 ∧ i = .int .i64 j ∧ PActs w b mb (k + 1) rb rs q' wx) (fun i _ => (7 - intOf i).toNat)
        case atStart => exact ⟨-1, by omega, by omega, rfl, HL2.out.drewN _⟩
        case round =>
          clear HL2
          obtain ⟨j, hj0, hj, rfl, LJ⟩ := hrel
          have HLJ := Lib.hid LJ; clear LJ
          by_cases hj6 : j ≤ 6
          · have hwf : (Lit.int .i64 j).wf = true := WalkArith.wf_i64 (by omega)
            have nt : (q'.at j != q'.at j) = false := bne_self_eq_false _
            have na : (q'.value j != q'.value j) = false := bne_self_eq_false _
            go_wp2_with fail
            refine (pool_Shares b mb _ q' j _ HLJ.out.pool hwf).mono ?_
            rintro e w3 ⟨rfl, rfl⟩
            go_wp2_with fail
            refine (refq_Shares rb rs 6 q' j _ HLJ.out.ref).mono ?_
            rintro e w3 ⟨rfl, rfl⟩
            go_wp2_with fail
            refine (pool_Value A _ b mb _ q' j _ (HS.out.below HLJ.out.below).errs m2 HLJ.out.pool hwf).mono ?_
            rintro e w3 ⟨rfl, hd⟩
            have HL3 := Lib.hid (HLJ.out.dr hd); clear hd
            go_wp2_with fail
            refine (refq_Value rb rs 6 q' j _ HL3.out.ref).mono ?_
            rintro e w4 ⟨rfl, hd⟩
            have HL4 := Lib.hid (HL3.out.dr hd); clear hd
            go_wp2_with fail
            go_roundw
            case rel => exact ⟨j + 1, by omega, by omega, by go_num, HL4.out⟩
            case measure => simp [intOf]; omega
          · obtain rfl : j = 7 := by omega
            go_wp2_with fail
            have hg := hG.out
            go_roundg (len0 - (k + 1))
            case measure => omega
            case rel => exact ⟨k + 1, q', HLJ.out, by omega, by go_num⟩
    · have hle : len0 ≤ k := by omega
      clear hlt
      have HL := Lib.hid L; clear L
      have hG := Lib.hid hg; clear hg
      go_wp2_with fail
      go_ret
      exact ⟨rfl, HL.out.below⟩

set_option maxRecDepth 8000 in
theorem pacts_all (A : Nat → Addr) (a0 : Option Addr) (len0 cap0 : Nat) (l0 : List ActA) (w : World) (hS : Sents A w) (R0 : RdR ActA.enc 3 w a0 len0 cap0 l0) :
    Calls Tryd.prog 11 #[.slice a0 len0 cap0] w fun e w' => e = .returned (.bool true) ∧ Below w.heap.size w w' := by
  by_cases hl : len0 ≤ 100
  · exact pacts_walk A a0 len0 cap0 l0 w hS R0 hl
  · have HS := Lib.hid hS; clear hS R0
    have m2 : (2 : Nat) ∈ [1, 2, 3, 4, 5, 6, 7, 8, 9, 10] := by decide
    have m4 : (4 : Nat) ∈ [1, 2, 3, 4, 5, 6, 7, 8, 9, 10] := by decide
    have m7 : (7 : Nat) ∈ [1, 2, 3, 4, 5, 6, 7, 8, 9, 10] := by decide
    have m8 : (8 : Nat) ∈ [1, 2, 3, 4, 5, 6, 7, 8, 9, 10] := by decide
    have d1 : decide ((100 : Int) < (len0 : Int)) = true := by simp; omega
    go_enter Tryd.func11, Tryd.ntmps11
    go_wp2_with fail
    refine (law_joined A _ _ HS.out.errs m2 m4 m7 m8).mono ?_
    rintro e w0 ⟨rfl, hb0⟩
    go_wp2
    go_ret
    exact ⟨rfl, hb0⟩
end Go.Proofs.YtajnfkmkombajabDoor
