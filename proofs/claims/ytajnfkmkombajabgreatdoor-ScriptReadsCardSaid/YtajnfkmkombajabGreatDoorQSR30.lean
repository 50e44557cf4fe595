/-
  ScriptReads: the walk.
-/
import Derived.Test.YtajnfkmkombajabGreatDoorQSR29
import Derived.Laws.Strings2
set_option linter.unusedVariables false
set_option linter.unusedSimpArgs false
set_option linter.unusedVariables false
namespace Go.Proofs.YtajnfkmkombajabGreatDoor
open Go Go.RowKit Go.Maps

theorem str_slice1 (sl : List UInt8) (hl : sl.length ≤ 100) (k : Nat) (c : UInt8) (hc : sl[k]? = some c) (wx : World) :
    (Instr.slice 9 (.string (bstr sl)) (some (.int .i64 (k : Int))) (some (.int .i64 ((k : Int) + 1))) none).run Tryz.prog wx = .ok (.string (bstr [c])) wx := by
  have hk : k < sl.length := by
    rcases Nat.lt_or_ge k sl.length with q | q
    · exact q
    · rw [List.getElem?_eq_none q] at hc; cases hc
  have hs := bstr_size sl
  rw [run_slice_string wx 9 (bstr sl) .i64 .i64 k ((k : Int) + 1) Tryz.underlying9 (by omega) (by omega) (by omega)]
  congr 2
  apply Go.WideShapes.bytes_inj
  rw [show ((k : Int) + 1).toNat = k + 1 by omega, Int.toNat_natCast]
  simp only [bstr, ByteArray.data_extract]
  rw [Array.toList_extract]
  simp only [List.extract, Nat.add_sub_cancel_left]
  rw [List.drop_eq_getElem_cons hk]
  rw [List.getElem?_eq_getElem hk] at hc
  cases hc
  rfl

set_option maxRecDepth 8000 in
set_option maxHeartbeats 4000000 in
theorem reads_all (A : Nat → Addr) (sd : Nat) (hs : sd < 18446744073709551616) (ao : Option Addr) (len cap : Nat) (ls : List ByteArray) (w : World) (h : Lw A w) (R : RdR strE 1 w ao len cap ls) :
    Calls Tryz.prog 3 #[.int .u64 sd, .slice ao len cap] w fun e w' => e = .returned (.bool true) ∧ Below w.heap.size w w' := by
  obtain ⟨i0, hi, hz0, hz1, hz2⟩ := info_parts Tryz.infoStr
  have HH := Lib.hid (law_hello A w h)
  have HL := Lib.hid h
  have HR := Lib.hid R
  have HSD := Lib.hid hs
  have HSZ := Lib.hid R.size
  clear h R hs
  by_cases h110 : 110 < len
  · have e1 : decide ((110 : Int) < (len : Int)) = true := decide_eq_true (by omega)
    have e1' : decide (110 < len) = true := decide_eq_true h110
    clear h110
    go_enter Tryz.func3, Tryz.ntmps3
    go_wp2_with fail
    refine HH.out.mono ?_
    rintro e w1 ⟨rfl, b1⟩
    go_wp2_with fail
    go_ret
    exact ⟨rfl, b1⟩
  have e1 : decide ((110 : Int) < (len : Int)) = false := decide_eq_false (by omega)
  have e1' : decide (110 < len) = false := decide_eq_false h110
  have hlen : len ≤ 110 := by omega
  clear h110
  go_enter Tryz.func3, Tryz.ntmps3
  go_wp2_with fail
  refine HH.out.mono ?_
  rintro e wh ⟨rfl, bh⟩
  have HBH := Lib.hid bh; clear bh HH
  go_wp2_with fail
  go_loopg [6, 7] len (fun g out i wr => ∃ j : Nat, g + j = len ∧ i = .int .i64 j ∧ wr.ownsRow w.heap.size 9 1 out j ((ls.take j).map Value.string) ∧ Below w.heap.size w wr ∧ ∀ s ∈ ls.take j, s.size ≤ 100)
  case atStart => exact ⟨0, rfl, rfl, World.ownsRow_nil _ _ _ _, HBH.out, (fun s hs => by cases hs)⟩
  case round =>
    obtain ⟨j, hg, rfl, ho, hb, hsz⟩ := hrel
    have HG := Lib.hid hg; have HO := Lib.hid ho; have HB := Lib.hid hb; have HLZ := Lib.hid hsz
    clear hg ho hb hsz
    by_cases hlt : j < len
    · obtain ⟨s, hv⟩ : ∃ s, ls[j]? = some s := ⟨_, List.getElem?_eq_getElem (by have := HSZ.out; omega)⟩
      obtain ⟨bb, off, rfl, hbl, hcs⟩ := (HR.out.below HB.out).cells j s hv
      have c0 := hcs 0 (by decide)
      simp only [strE, List.getElem?_cons_zero, Nat.add_zero, Nat.mul_one] at c0
      have HT := Lib.hid (show ls.take (j + 1) = ls.take j ++ [s] by rw [List.take_add_one, hv]; rfl)
      clear hcs hv hbl
      by_cases h100 : 100 < s.size
      · have f1 : decide ((100 : Int) < (s.size : Int)) = true := decide_eq_true (by omega)
        have f1' : decide (100 < s.size) = true := decide_eq_true h100
        clear h100
        go_wp2_with fail
        go_ret
        exact ⟨rfl, HB.out⟩
      · have f1 : decide ((100 : Int) < (s.size : Int)) = false := decide_eq_false (by omega)
        have f1' : decide (100 < s.size) = false := decide_eq_false h100
        have HSS := Lib.hid (show s.size ≤ 100 by omega)
        clear h100
        go_wp2_with (at_builtin; refine wpList_append_lies _ rfl (.tmp 36) (.tmp 41) 23 rfl w.heap.size 9 i0 (.string ⟨#[]⟩) 1 16 Tryz.underlying23 hi hz0 hz1 hz2 rfl (by decide) u6 j ((ls.take j).map Value.string) rfl (HO.out.alloc _) ⟨_, 0, none⟩ 1 1 [.string s] rfl rfl (cell_one_at _ _ _ _ (by simp)) (by intro u hu; simp at hu; subst hu; rfl) (by decide) (by unfold maxLen; omega) (by omega) (by have := HB.out.size; simp; omega) _ rfl ?_)
        intro g cp w4 ho2 hg2 hor hgl
        have HO4 := Lib.hid ho2
        have HB4 := Lib.hid ((HB.out.alloc HB.out.size _).grown hg2 (by have := HB.out.size; simp; omega) (fun k hk => (HO.out.lt k hk).1))
        clear ho2 hg2 hor hgl
        go_wp2_with fail
        have hg := HG.out
        go_roundg (len - (j + 1))
        case measure => omega
        case rel => exact ⟨j + 1, by omega, by go_num, by rw [HT.out, List.map_append, List.map_take]; exact HO4.out, HB4.out, (fun t ht => by
          rw [HT.out] at ht
          rcases List.mem_append.1 ht with q1 | q1
          · exact HLZ.out t q1
          · obtain rfl := List.mem_singleton.1 q1; exact HSS.out)⟩
    · have hjl : j = len := by have := HG.out; omega
      subst hjl
      have hz := HSZ.out
      have ho := HO.out
      have hl1 := HLZ.out
      rw [List.take_of_length_le (by omega)] at ho hl1
      obtain ⟨vo, vc, rfl, hv⟩ := RdR.own_str ho
      have HV := Lib.hid hv; have HLS := Lib.hid hl1
      clear hz ho hv hl1 HO HLZ
      by_cases h100 : 100 < j
      · have f1 : decide ((100 : Int) < (j : Int)) = true := decide_eq_true (by omega)
        have f1' : decide (100 < j) = true := decide_eq_true h100
        have HRUN := Lib.hid (reads_over A sd vo j vc wr (HL.out.below HB.out) h100)
        clear h100
        go_wp2_with fail
        refine HRUN.out.mono ?_
        rintro e w2 ⟨rfl, b2⟩
        have HB2 := Lib.hid (btrans HB.out b2); clear b2
        have HCO := Lib.hid (reads_coded A w2 (HL.out.below HB2.out))
        have hev := ev_some A (show (2 : Nat) ≠ 0 by decide)
        rw [hev] at HCO ⊢
        go_wp2_with fail
        refine HCO.out.mono ?_
        rintro e w3 ⟨rfl, b3⟩
        go_wp2_with fail
        go_ret
        exact ⟨rfl, btrans HB2.out b3⟩
      · have f1 : decide ((100 : Int) < (j : Int)) = false := decide_eq_false (by omega)
        have f1' : decide (100 < j) = false := decide_eq_false h100
        have HRUN := Lib.hid (reads_Run A sd HSD.out vo j vc ls wr (HL.out.below HB.out) HV.out HLS.out (by omega))
        clear h100
        go_wp2_with fail
        refine HRUN.out.mono ?_
        rintro e w2 ⟨v, an, rfl, b2, o2, hal, htold⟩
        obtain ⟨aa, ac, rfl, ra⟩ := RdR.own_str o2
        have HB2 := Lib.hid (btrans HB.out b2)
        have HRA := Lib.hid ra
        have HTO := Lib.hid htold
        clear b2 o2 ra hal htold HRUN
        go_wp2_with fail
        go_loopw [10] (fun i wr => ∃ k : Nat, k ≤ j ∧ i = .int .i64 k ∧ Below w2.heap.size w2 wr) (fun i _ => j - (intOf i).toNat)
        case atStart => exact ⟨0, Nat.zero_le _, rfl, Below.refl _ _⟩
        case round =>
          obtain ⟨k, hk, rfl, hb2⟩ := hrel
          rename World => wo
          have HK := Lib.hid hk; have HBO := Lib.hid hb2
          clear hk hb2
          by_cases hlt2 : k < j
          · obtain ⟨s, hv⟩ : ∃ s, ls[k]? = some s := ⟨_, List.getElem?_eq_getElem (by have := HSZ.out; omega)⟩
            obtain ⟨t, ht, hne, htl⟩ := HTO.out k s hv
            obtain ⟨bb, off, rfl, hbl, hcs⟩ := ((HR.out.below HB2.out).below HBO.out).cells k s hv
            obtain ⟨bo, offo, rfl, hblo, hcso⟩ := (HRA.out.below HBO.out).cells k t ht
            have c0 := hcs 0 (by decide)
            have o0 := hcso 0 (by decide)
            simp only [strE, List.getElem?_cons_zero, Nat.add_zero, Nat.mul_one] at c0 o0
            have hs100 := HLS.out s (List.mem_of_getElem? hv)
            have HO0 := Lib.hid (fun wx (q : Below wo.heap.size wo wx) => show wx.cell? ⟨bo, offo + k, none⟩ = some (.string t) from by rw [q.cell hblo]; exact o0)
            obtain ⟨sl, rfl⟩ : ∃ sl, s = bstr sl := ⟨s.data.toList, (bstr_data s).symm⟩
            have hsz := bstr_size sl
            have hsl : sl.length ≤ 100 := by omega
            rw [data_bstr] at htl
            have HTL := Lib.hid htl
            have HIX := Lib.hid (fun q c (hc : sl[q]? = some c) wx => str_index sl hsl q c hc wx)
            have HSL := Lib.hid (fun q c (hc : sl[q]? = some c) wx => str_slice1 sl hsl q c hc wx)
            have hte : (t.toList == []) = false := by
              rw [ByteArray.toList_eq]
              cases hd : t.data.toList with
              | nil => exact absurd (show t.size = 0 by show t.data.size = 0; rw [← Array.length_toList, hd]; rfl) hne
              | cons a l => rfl
            clear hcs hcso hv ht hbl hblo hne htl hs100
            generalize bstr sl = s at *
            go_wp2_with fail
            go_loopg [11, 12] sl.length (fun g a i wx => ∃ q : Nat, g + q = sl.length ∧ i = .int .i64 q ∧ a = .string (bstr (sl.take q)) ∧ (∀ p, p < q → sl[p]? ≠ some 32) ∧ wo = wx)
            case atStart => exact ⟨0, rfl, rfl, rfl, (fun p hp => absurd hp (Nat.not_lt_zero _)), rfl⟩
            case round =>
              obtain ⟨q, hg, rfl, rfl, hno, rfl⟩ := hrel
              have HG2 := Lib.hid hg; have HNO := Lib.hid hno
              clear hg hno
              have hql : q ≤ sl.length := by have := HG2.out; omega
              by_cases hx : q = sl.length ∨ sl[q]? = some 32
              · have HTW := Lib.hid (takeWhile_at sl q HNO.out hx hql)
                have HFO := Lib.hid (fun wx => law_formOf (bstr (sl.take q)) wx)
                rw [data_bstr] at HFO
                rw [HTW.out] at HTL
                generalize bstr (sl.take q) = tw at *
                rcases hx with hx | hx
                · have d1 : decide ((q : Int) < (sl.length : Int)) = false := decide_eq_false (by omega)
                  have d1' : decide (q < sl.length) = false := decide_eq_false (by omega)
                  clear hx
                  cases hcm : cmdOf (sl.take q) with
                  | none =>
                    have hte2 := HTL.out hcm
                    rw [hcm] at HFO
                    simp only [formT, Option.isSome_none] at HFO
                    clear hcm HTL
                    have HER := Lib.hid (law3_errorText 1 (by decide) (by decide))
                    subst hte2
                    generalize errB 1 = eb at *
                    go_wp2_with fail
                    refine (HFO.out _).mono ?_
                    rintro e w3 ⟨rfl, rfl⟩
                    go_wp2_with fail
                    go_region_held3 (fun w' => w'.cell? ⟨bo, offo + k, none⟩ = some (.string eb)) (first | exact HO0.out _ HB5.out | exact HO0.out _ ((Below.refl _ _).drewN _))
                      ((go_at_call 8; refine (HER.out _).mono ?_; rintro y w5 ⟨rfl, b5⟩; have HB5 := Lib.hid (btrans ((Below.refl wo.heap.size wo).drewN 1) b5)))
                    all_goals
                      go_wp2_with fail
                      go_roundw
                      case rel => exact ⟨k + 1, by omega, by go_num, btrans HBO.out HB5.out⟩
                      case measure => simp [intOf]; omega
                  | some i =>
                    rw [hcm] at HFO
                    simp only [Option.isSome_some] at HFO
                    clear hcm HTL
                    go_wp2_with fail
                    refine (HFO.out _).mono ?_
                    rintro e w3 ⟨rfl, rfl⟩
                    go_wp2_with fail
                    go_quiet (fail)
                    go_wp2_with fail
                    go_roundw
                    case rel => exact ⟨k + 1, by omega, by go_num, btrans HBO.out ((Below.refl _ _).drewN _)⟩
                    case measure => simp [intOf]; omega
                · have hq : q < sl.length := by
                    rcases Nat.lt_or_ge q sl.length with z | z
                    · exact z
                    · rw [List.getElem?_eq_none z] at hx; cases hx
                  have d1 : decide ((q : Int) < (sl.length : Int)) = true := decide_eq_true (by omega)
                  have d1' : decide (q < sl.length) = true := decide_eq_true hq
                  have hidx := HIX.out q 32 hx
                  clear hx hq
                  cases hcm : cmdOf (sl.take q) with
                  | none =>
                    have hte2 := HTL.out hcm
                    rw [hcm] at HFO
                    simp only [formT, Option.isSome_none] at HFO
                    clear hcm HTL
                    have HER := Lib.hid (law3_errorText 1 (by decide) (by decide))
                    subst hte2
                    generalize errB 1 = eb at *
                    go_wp2_with fail
                    refine (HFO.out _).mono ?_
                    rintro e w3 ⟨rfl, rfl⟩
                    go_wp2_with fail
                    go_region_held3 (fun w' => w'.cell? ⟨bo, offo + k, none⟩ = some (.string eb)) (first | exact HO0.out _ HB5.out | exact HO0.out _ ((Below.refl _ _).drewN _))
                      ((go_at_call 8; refine (HER.out _).mono ?_; rintro y w5 ⟨rfl, b5⟩; have HB5 := Lib.hid (btrans ((Below.refl wo.heap.size wo).drewN 1) b5)))
                    all_goals
                      go_wp2_with fail
                      go_roundw
                      case rel => exact ⟨k + 1, by omega, by go_num, btrans HBO.out HB5.out⟩
                      case measure => simp [intOf]; omega
                  | some i =>
                    rw [hcm] at HFO
                    simp only [Option.isSome_some] at HFO
                    clear hcm HTL
                    go_wp2_with fail
                    refine (HFO.out _).mono ?_
                    rintro e w3 ⟨rfl, rfl⟩
                    go_wp2_with fail
                    go_quiet (fail)
                    go_wp2_with fail
                    go_roundw
                    case rel => exact ⟨k + 1, by omega, by go_num, btrans HBO.out ((Below.refl _ _).drewN _)⟩
                    case measure => simp [intOf]; omega
              · obtain ⟨hx1, hx2⟩ := not_or.1 hx
                have hq : q < sl.length := by omega
                obtain ⟨c, hc⟩ : ∃ c, sl[q]? = some c := ⟨_, List.getElem?_eq_getElem hq⟩
                have hc32 : c ≠ 32 := fun e => hx2 (by rw [hc, e])
                have d1 : decide ((q : Int) < (sl.length : Int)) = true := decide_eq_true (by omega)
                have d1' : decide (q < sl.length) = true := decide_eq_true hq
                have hidx := HIX.out q c hc
                have hsl1 := HSL.out q c hc
                have hn32 : ((c.toNat : Int) != 32) = true := by
                  rw [bne_iff_ne]
                  intro e
                  exact hc32 (UInt8.toNat_inj.1 (by rw [show c.toNat = 32 by omega]; rfl))
                have HADD := Lib.hid (show bstr (sl.take q) ++ bstr [c] = bstr (sl.take (q + 1)) by rw [bstr_append, List.take_add_one, hc]; rfl)
                have hs1 := bstr_size (sl.take q)
                have hs2 := bstr_size [c]
                rw [List.length_take] at hs1
                have hs3 : ([c] : List UInt8).length = 1 := rfl
                have HN1 := Lib.hid (show ∀ p, p < q + 1 → sl[p]? ≠ some 32 from fun p hp => by
                  rcases Nat.lt_or_ge p q with z | z
                  · exact HNO.out p z
                  · obtain rfl : p = q := by omega
                    exact hx2)
                generalize bstr (sl.take q) = tw at *
                generalize bstr [c] = tc at *
                have hb1 : ¬ (9223372036854775807 < tw.size + tc.size) := by omega
                clear hx hx1 hx2 hc hc32 hs1 hs2 hs3
                generalize (c.toNat : Int) = ci at *
                go_wp2_with fail
                have hg := HG2.out
                go_roundg (sl.length - (q + 1))
                case measure => omega
                case rel => exact ⟨q + 1, by omega, by go_num, by rw [← HADD.out], HN1.out, rfl⟩
          · go_wp2_with fail
            go_ret
            exact ⟨rfl, btrans HB2.out HBO.out⟩
end Go.Proofs.YtajnfkmkombajabGreatDoor
