/- The walk of PurseSums. -/
import Derived.Test.YtajnfkmkombajaaDoorPurse2
import Derived.Test.YtajnfkmkombajaaDoorOpenA
import Derived.Deep.RegionWith
import Derived.Deep.DeepCutAuto
import Derived.Deep.CutBlock
import Derived.Deep.LoopGhost
namespace Go.Proofs.YtajnfkmkombajaaDoor
open Go.RowKit

theorem ref_IsAmount (n : Int) (w : World) : Calls Tryd.prog 23 #[.int .i64 n] w fun e w' => e = .returned (.bool (amtB n)) ∧ w = w' := by
  by_cases h0 : n < 0
  · have H := Lib.hid (show amtB n = false by rw [amtB_false]; omega)
    go_enter Tryd.func23, Tryd.ntmps23
    go_wp2
    go_ret
    exact ⟨by rw [H.out]; rfl, rfl⟩
  · have h0' : 0 ≤ n := by omega
    have H := Lib.hid (show amtB n = decide (n ≤ 1125899906842624) by unfold amtB; simp [h0'])
    clear h0
    go_enter Tryd.func23, Tryd.ntmps23
    go_wp2
    go_ret
    exact ⟨by rw [H.out]; rfl, rfl⟩

theorem mintOp_c {p : PS} {o n : Int} : (p.mintOp o n).1 = 0 ∧ (p.mintOp o n).2.supply = p.supply + n ∨ (p.mintOp o n).1 ≠ 0 ∧ (p.mintOp o n).2 = p := by
  unfold PS.mintOp; split
  · exact .inr ⟨(by simp), rfl⟩
  · split
    · exact .inr ⟨(by simp), rfl⟩
    · exact .inl ⟨rfl, rfl⟩

theorem pursed_ops : PS.new.mintOp 1 5 = (0, ⟨[0, 5, 0, 0, 0, 0], 5, 5⟩) ∧ (PS.mk [0, 5, 0, 0, 0, 0] 5 5).outOp 1 2 = (0, ⟨[0, 3, 0, 0, 0, 0], 3, 5⟩) ∧ (if ownB 1 then (PS.mk [0, 3, 0, 0, 0, 0] 3 5).at 1 else 0) = 3 := ⟨by rfl, by rfl, by rfl⟩

set_option maxRecDepth 8000 in
theorem law_pursed (A : Nat → Addr) (S : List Nat) (w : World) (hE : Errs A S w) (h2 : 2 ∈ S) (h6 : 6 ∈ S) :
    Calls Tryd.prog 13 #[] w fun e w' => e = .returned (.bool true) ∧ Below w.heap.size w w' := by
  have HE := Lib.hid hE; clear hE
  obtain ⟨o1, o2, o3⟩ := pursed_ops
  have O1 := Lib.hid o1; have O2 := Lib.hid o2; have O3 := Lib.hid o3
  clear o1 o2 o3
  go_enter Tryd.func13, Tryd.ntmps13
  go_wp2_with fail
  refine (purse_New _).mono ?_
  rintro e w1 ⟨rfl, hb1, hp1⟩
  go_wp2_with fail
  refine (purse_Mint A S _ _ _ _ _ (HE.out.below hb1) h2 hp1).mono ?_
  rintro e w2 ⟨rfl, k2⟩
  rw [O1.out] at k2 ⊢
  have b2 := Keep.after hb1 k2.1 (fun i hi => by omega)
  have K2 := Lib.hid k2; clear k2
  simp only [ev_nil]
  go_wp2_with fail
  refine (purse_Out A S _ _ _ _ _ (HE.out.below b2) h2 h6 K2.out.2).mono ?_
  rintro e w3 ⟨rfl, k3⟩
  rw [O2.out] at k3 ⊢
  have b3 := Keep.after b2 k3.1 (fun i hi => by omega)
  have K3 := Lib.hid k3; clear k3
  simp only [ev_nil]
  go_wp2_with fail
  refine (purse_Has _ _ _ _ K3.out.2).mono ?_
  rintro e w4 ⟨rfl, rfl⟩
  rw [O3.out]
  go_wp2_with fail
  refine (purse_Supply _ _ _ K3.out.2).mono ?_
  rintro e w4 ⟨rfl, rfl⟩
  go_wp2
  go_ret
  exact ⟨rfl, b3⟩

/-- what a purse's laws keep from one act to the next -/
structure PurseLoop (W : World) (b : Nat) (p : PS) (w : World) : Prop where
  purse : PurseAt b p w
  below : Below W.heap.size W w
  new : W.heap.size ≤ b

theorem PurseLoop.alloc {W : World} {b : Nat} {p : PS} {w : World} (h : PurseLoop W b p w) (o : Obj) : PurseLoop W b p (w.alloc o) :=
  ⟨⟨h.purse.ok, h.purse.row.alloc o⟩, h.below.alloc h.below.size o, h.new⟩
theorem PurseLoop.step {W : World} {b : Nat} {p q : PS} {w w' : World} (h : PurseLoop W b p w) (k : PurseP b q w w') : PurseLoop W b q w' :=
  ⟨k.2, Keep.after h.below k.1 (fun i hi => by have := h.new; omega), h.new⟩
/-- the act's own box stands while the purse turns -/
theorem PurseLoop.box {W : World} {b : Nat} {p q : PS} {w w' : World} {t : TypeId} {vs : Array Value} (h : PurseLoop W b p w) (k : PurseP b q (w.alloc (.cells vs t)) w') (j : Nat) : w'.cell? ⟨w.heap.size, j, none⟩ = vs[j]? := by
  have hb := h.purse.lt
  rw [k.1.cell (p := ⟨w.heap.size, j, none⟩) (by simp) (by simp only; omega)]
  have := heap_alloc_new w (.cells vs t)
  unfold World.cell?
  rw [this]
  simp
theorem take_sum_succ {q : PS} (h : q.Ok) {j : Nat} (hj : j < 6) : (q.has.take (j + 1)).sum = (q.has.take j).sum + q.at (j : Int) := by
  rw [List.take_succ_eq_append_getElem (by rw [h.six]; exact hj), List.sum_append]
  simp [PS.at, h.six, hj]
theorem take_sum_bd {q : PS} (h : q.Ok) {j : Nat} (hj : j < 6) : 0 ≤ (q.has.take j).sum ∧ (q.has.take j).sum + q.at (j : Int) ≤ 1125899906842624 := by
  have h1 := (sum_le_of_nonneg (l := q.has.take j) (fun x hx => h.pos x (List.mem_of_mem_take hx)) 0).2.1
  have h2 := (sum_le_of_nonneg (l := q.has.drop (j + 1)) (fun x hx => h.pos x (List.mem_of_mem_drop hx)) 0).2.1
  have h3 : q.has.sum = (q.has.take (j + 1)).sum + (q.has.drop (j + 1)).sum := by rw [← List.sum_append, List.take_append_drop]
  rw [take_sum_succ h hj] at h3
  have := h.sumIs; have := h.le; have := h.most
  omega
theorem growOp_s {p : PS} {n : Int} : (p.growOp n).1 = 0 ∧ (p.growOp n).2.supply = p.supply + n ∨ (p.growOp n).1 ≠ 0 ∧ (p.growOp n).2 = p := by
  unfold PS.growOp; split
  · exact .inl ⟨rfl, rfl⟩
  · exact .inr ⟨(by simp), rfl⟩
theorem burnOp_s {p : PS} {n : Int} : (p.burnOp n).1 = 0 ∧ (p.burnOp n).2.supply = p.supply - n ∨ (p.burnOp n).1 ≠ 0 ∧ (p.burnOp n).2 = p := by
  unfold PS.burnOp; split
  · exact .inr ⟨(by simp), rfl⟩
  · split
    · exact .inr ⟨(by simp), rfl⟩
    · exact .inl ⟨rfl, by show p.supply + -n = p.supply - n; omega⟩
theorem outOp_s {p : PS} {o n : Int} : (p.outOp o n).2.supply = p.supply := by
  unfold PS.outOp; split
  · rfl
  · split <;> rfl
theorem inOp_s {p : PS} {o n : Int} : (p.inOp o n).2.supply = p.supply := by
  unfold PS.inOp; split
  · rfl
  · split <;> rfl
theorem moveOp_s {p : PS} {x y n : Int} : (p.moveOp x y n).2.supply = p.supply := by
  unfold PS.moveOp; split
  · rfl
  · split
    · exact outOp_s
    · rw [inOp_s, outOp_s]
theorem far_new {A : Nat → Addr} {S : List Nat} {w : World} (h : Errs A S w) {b : Nat} (hb : w.heap.size ≤ b) : Far S b := fun c hc e => by
  have := World.block_lt_of_cell? w _ (h.cell c hc); simp only at this; omega

set_option maxRecDepth 8000 in
set_option maxHeartbeats 1000000 in
theorem sums_walk (A : Nat → Addr) (S : List Nat) (a0 : Option Addr) (len0 cap0 : Nat) (l0 : List ActA) (a1 : Option Addr) (len1 cap1 : Nat) (z1 : List Int) (w : World) (hE : Errs A S w) (h2 : 2 ∈ S) (h6 : 6 ∈ S)
    (R0 : RdR ActA.enc 3 w a0 len0 cap0 l0) (R1 : RdI .i64 w a1 len1 cap1 z1) (hl : len0 ≤ 100) :
    Calls Tryd.prog 3 #[.slice a0 len0 cap0, .slice a1 len1 cap1] w fun e w' => e = .returned (.bool true) ∧ Below w.heap.size w w' := by
  have HE := Lib.hid hE; clear hE
  have HR0 := Lib.hid R0; clear R0
  have HR1 := Lib.hid R1; clear R1
  have d1 : decide ((100 : Int) < (len0 : Int)) = false := by simp; omega
  go_enter Tryd.func3, Tryd.ntmps3
  go_wp2_with fail
  refine (law_pursed A S _ HE.out h2 h6).mono ?_
  rintro e w0 ⟨rfl, hb0⟩
  go_wp2_with fail
  refine (purse_New _).mono ?_
  rintro e w1 ⟨rfl, hb1, hp1⟩
  have L0 := Lib.hid (show PurseLoop w w0.heap.size PS.new w1 from ⟨hp1, btrans hb0 hb1, hb0.size⟩)
  clear hp1 hb1
  go_wp2_with fail
  go_loopg [7, 8] len0 (fun g s i wr => ∃ (k : Nat) (p : PS), PurseLoop w w0.heap.size p wr ∧ g + k = len0 ∧ i = .int .i64 k ∧ s = .int .i64 p.supply)
  case atStart => exact ⟨0, PS.new, L0.out, rfl, rfl, rfl⟩
  case round =>
    clear L0
    obtain ⟨k, p, L, hg, rfl, rfl⟩ := hrel
    by_cases hlt : k < len0
    · obtain ⟨x, hx⟩ : ∃ x, l0[k]? = some x := ⟨_, List.getElem?_eq_getElem (by rw [HR0.out.size]; exact hlt)⟩
      obtain ⟨b, off, rfl, hbl, hcs⟩ := (HR0.out.below L.below).cells k x hx
      have c0 := hcs 0 (by decide)
      have c1 := hcs 1 (by decide)
      have c2 := hcs 2 (by decide)
      simp only [ActA.enc, List.getElem?_cons_zero, List.getElem?_cons_succ, Nat.add_zero] at c0 c1 c2
      have hG := Lib.hid hg; clear hg hcs hx
      obtain ⟨s, o, n⟩ := x
      simp only at c0 c1 c2
      have HL := Lib.hid L; clear L
      have hF := far_new HE.out hb0.size
      have HF := Lib.hid hF; clear hF
      have hsz := HL.out.below.size
      go_upto_block 2 with fail
      go_cut [7] (fun s7 wx => ∃ q : PS, PurseLoop w w0.heap.size q wx ∧ s7 = .int .i64 q.supply)
      case first =>
        by_cases m0 : (s.toList == [109, 105, 110, 116]) = true
        · go_wp2_with fail
          refine (purse_Mint A S _ p o n _ (HE.out.below (HL.out.alloc _).below) h2 (HL.out.alloc _).purse).mono ?_
          rintro e w2 ⟨rfl, k2⟩
          have cb := HL.out.box k2 2
          have L2 := (HL.out.alloc _).step k2
          clear k2
          rcases mintOp_c (p := p) (o := o) (n := n) with ⟨g1, g2⟩ | ⟨g1, g2⟩
          · have bd1 := L2.purse.ok.most
            have bd2 := L2.purse.ok.le
            have bd3 := L2.purse.ok.sum_bd
            have HL2 := Lib.hid L2; clear L2
            rw [g1, ev_nil]
            have G2 := Lib.hid g2
            rw [g2] at bd1 bd2
            clear g1 g2
            go_wp2_with fail
            go_meet
            case rel => exact ⟨_, HL2.out, by rw [G2.out]⟩
          · rw [ev_ne g1]
            rw [g2] at L2
            have HL2 := Lib.hid L2; clear L2 g1 g2
            go_wp2_with fail
            go_meet
            case rel => exact ⟨_, HL2.out, rfl⟩
        · have n0 : (s.toList == [109, 105, 110, 116]) = false := by simpa using m0
          clear m0
          by_cases m1 : (s.toList == [103, 114, 111, 119]) = true
          · go_wp2_with fail
            refine (purse_Grow A S _ p n _ (HE.out.below (HL.out.alloc _).below) h2 (HL.out.alloc _).purse).mono ?_
            rintro e w2 ⟨rfl, k2⟩
            have cb := HL.out.box k2 2
            have L2 := (HL.out.alloc _).step k2
            clear k2
            rcases growOp_s (p := p) (n := n) with ⟨g1, g2⟩ | ⟨g1, g2⟩
            · have bd1 := L2.purse.ok.most
              have bd2 := L2.purse.ok.le
              have bd3 := L2.purse.ok.sum_bd
              have HL2 := Lib.hid L2; clear L2
              rw [g1, ev_nil]
              have G2 := Lib.hid g2
              rw [g2] at bd1 bd2
              clear g1 g2
              go_wp2_with fail
              go_meet
              case rel => exact ⟨_, HL2.out, by rw [G2.out]⟩
            · rw [ev_ne g1]
              rw [g2] at L2
              have HL2 := Lib.hid L2; clear L2 g1 g2
              go_wp2_with fail
              go_meet
              case rel => exact ⟨_, HL2.out, rfl⟩
          · have n1 : (s.toList == [103, 114, 111, 119]) = false := by simpa using m1
            clear m1
            by_cases m2 : (s.toList == [98, 117, 114, 110]) = true
            · go_wp2_with fail
              refine (purse_Burn A S _ p n _ (HE.out.below (HL.out.alloc _).below) h2 h6 (HL.out.alloc _).purse).mono ?_
              rintro e w2 ⟨rfl, k2⟩
              have cb := HL.out.box k2 2
              have L2 := (HL.out.alloc _).step k2
              clear k2
              rcases burnOp_s (p := p) (n := n) with ⟨g1, g2⟩ | ⟨g1, g2⟩
              · have bd1 := L2.purse.ok.most
                have bd2 := L2.purse.ok.le
                have bd3 := L2.purse.ok.sum_bd
                have HL2 := Lib.hid L2; clear L2
                rw [g1, ev_nil]
                have G2 := Lib.hid g2
                rw [g2] at bd1 bd2
                clear g1 g2
                go_wp2_with fail
                go_meet
                case rel => exact ⟨_, HL2.out, by rw [G2.out]⟩
              · rw [ev_ne g1]
                rw [g2] at L2
                have HL2 := Lib.hid L2; clear L2 g1 g2
                go_wp2_with fail
                go_meet
                case rel => exact ⟨_, HL2.out, rfl⟩
            · have n2 : (s.toList == [98, 117, 114, 110]) = false := by simpa using m2
              clear m2
              by_cases m3 : (s.toList == [111, 117, 116]) = true
              · go_wp2_with fail
                refine (purse_Out A S _ p o n _ (HE.out.below (HL.out.alloc _).below) h2 h6 (HL.out.alloc _).purse).mono ?_
                rintro e w2 ⟨rfl, k2⟩
                have HL2 := Lib.hid ((HL.out.alloc _).step k2)
                clear k2
                go_wp2_with fail
                go_meet
                case rel => exact ⟨_, HL2.out, by rw [outOp_s]⟩
              · have n3 : (s.toList == [111, 117, 116]) = false := by simpa using m3
                clear m3
                by_cases m4 : (s.toList == [105, 110]) = true
                · go_wp2_with fail
                  refine (purse_In A S _ p o n _ (HE.out.below (HL.out.alloc _).below) h2 h6 (HL.out.alloc _).purse).mono ?_
                  rintro e w2 ⟨rfl, k2⟩
                  have HL2 := Lib.hid ((HL.out.alloc _).step k2)
                  clear k2
                  go_wp2_with fail
                  go_meet
                  case rel => exact ⟨_, HL2.out, by rw [inOp_s]⟩
                · have n4 : (s.toList == [105, 110]) = false := by simpa using m4
                  clear m4
                  by_cases hto : k < len1
                  · obtain ⟨b1, off1, ha1, hcl1⟩ := (HR1.out.below HL.out.below).cells k hto
                    have ha1' := Lib.hid ha1; clear ha1
                    have := ha1'.out; subst this
                    have hlt1 := World.block_lt_of_cell? _ _ hcl1
                    generalize z1.getD k 0 = y at *
                    go_wp2_with fail
                    refine (purse_Move A S _ p o _ n _ (HE.out.below (HL.out.alloc _).below) h2 h6 HF.out (HL.out.alloc _).purse).mono ?_
                    rintro e w2 ⟨rfl, k2⟩
                    have HL2 := Lib.hid ((HL.out.alloc _).step k2)
                    clear k2
                    go_wp2_with fail
                    go_meet
                    case rel => exact ⟨_, HL2.out, by rw [moveOp_s]⟩
                  · go_wp2_with fail
                    refine (purse_Move A S _ p o _ n _ (HE.out.below (HL.out.alloc _).below) h2 h6 HF.out (HL.out.alloc _).purse).mono ?_
                    rintro e w2 ⟨rfl, k2⟩
                    have HL2 := Lib.hid ((HL.out.alloc _).step k2)
                    clear k2
                    go_wp2_with fail
                    go_meet
                    case rel => exact ⟨_, HL2.out, by rw [moveOp_s]⟩
      case rest =>
        clear HL hsz
        obtain ⟨q, L2, rfl⟩ := hcut
        have HL2 := Lib.hid L2; clear L2
        go_wp2_with fail
        go_loop [11, 12] (fun t i => ∃ j : Nat, j ≤ 6 ∧ i = .int .i64 j ∧ t = .int .i64 (q.has.take j).sum) (fun _ i => 6 - (intOf i).toNat)
        case atStart => exact ⟨0, by omega, rfl, rfl⟩
        case round =>
          obtain ⟨j, hj, rfl, rfl⟩ := hrel
          by_cases hj6 : j < 6
          · have hH := fun wx hw => purse_Has w0.heap.size q (j : Int) wx hw
            rw [if_pos (ownB_iff.2 (by omega))] at hH
            have HH := Lib.hid hH; clear hH
            have hb := HL2.out.purse.ok.at_bd (j : Int)
            have hts := take_sum_bd HL2.out.purse.ok hj6
            have htn := take_sum_succ HL2.out.purse.ok hj6
            have HT := Lib.hid htn; clear htn
            generalize q.at (j : Int) = v at *
            generalize (q.has.take j).sum = t at *
            go_wp2_with (go_at_call 21; refine (HH.out _ HL2.out.purse).mono ?_; rintro e w9 ⟨rfl, rfl⟩)
            go_round
            case rel => exact ⟨j + 1, by omega, by go_num, by rw [HT.out]⟩
            case measure => simp [intOf]; omega
          · obtain rfl : j = 6 := by omega
            have hall : (q.has.take 6).sum = q.sum := by rw [List.take_of_length_le (by rw [HL2.out.purse.ok.six]; exact Nat.le_refl _)]; exact HL2.out.purse.ok.sumIs
            have hle := HL2.out.purse.ok.le
            have hm : amtB q.supply = true := amtB_iff.2 ⟨by have := HL2.out.purse.ok.sum_bd; omega, HL2.out.purse.ok.most⟩
            rw [hall]
            clear hall
            have hS := fun wx hw => purse_Supply w0.heap.size q wx hw
            have HS := Lib.hid hS; clear hS
            have ne : (q.supply != q.supply) = false := bne_self_eq_false _
            go_wp2_with (first | (go_at_call 22; refine (HS.out _ HL2.out.purse).mono ?_; rintro e w9 ⟨rfl, rfl⟩) | (go_at_call 23; refine (ref_IsAmount _ _).mono ?_; rintro e w9 ⟨rfl, rfl⟩))
            have hg := hG.out
            go_roundg (len0 - (k + 1))
            case measure => omega
            case rel => exact ⟨k + 1, q, HL2.out, by omega, by go_num, rfl⟩
    · have hle : len0 ≤ k := by omega
      clear hlt
      have HL := Lib.hid L; clear L
      have hG := Lib.hid hg; clear hg
      go_wp2
      go_ret
      exact ⟨rfl, HL.out.below⟩

set_option maxRecDepth 8000 in
theorem sums_all (A : Nat → Addr) (S : List Nat) (a0 : Option Addr) (len0 cap0 : Nat) (l0 : List ActA) (a1 : Option Addr) (len1 cap1 : Nat) (z1 : List Int) (w : World) (hE : Errs A S w) (h2 : 2 ∈ S) (h6 : 6 ∈ S)
    (R0 : RdR ActA.enc 3 w a0 len0 cap0 l0) (R1 : RdI .i64 w a1 len1 cap1 z1) :
    Calls Tryd.prog 3 #[.slice a0 len0 cap0, .slice a1 len1 cap1] w fun e w' => e = .returned (.bool true) ∧ Below w.heap.size w w' := by
  by_cases hl : len0 ≤ 100
  · exact sums_walk A S a0 len0 cap0 l0 a1 len1 cap1 z1 w hE h2 h6 R0 R1 hl
  · have HE := Lib.hid hE; clear hE R0 R1
    have d1 : decide ((100 : Int) < (len0 : Int)) = true := by simp; omega
    go_enter Tryd.func3, Tryd.ntmps3
    go_wp2_with fail
    refine (law_pursed A S _ HE.out h2 h6).mono ?_
    rintro e w0 ⟨rfl, hb0⟩
    go_wp2
    go_ret
    exact ⟨rfl, hb0⟩
end Go.Proofs.YtajnfkmkombajaaDoor
