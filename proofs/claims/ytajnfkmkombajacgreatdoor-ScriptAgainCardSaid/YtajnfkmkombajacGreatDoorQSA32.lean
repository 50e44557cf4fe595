/-
  ScriptAgain: the walk.
  ScriptAgain: the walk where the input is within bounds; whole.
  From a row's cell on listed variables, and the world's shape, to what the scripts' walks ask.
  A row that says 'leaving', of a function that starts nothing itself; its tied card.
-/
import Derived.Test.YtajnfkmkombajacGreatDoorQSA31
import Derived.Laws.AppendOwnNone
import Derived.Test.YtajnfkmkombajacGreatDoorQSA03
import Derived.Test.YtajnfkmkombajacGreatDoorQSA25
import Derived.Lib.LaidTab
import Derived.Shelf.Vars
import Derived.Handed
import Derived.Conc.Holds
import Derived.Leaving
import Derived.SevenTiedAt
set_option linter.unusedVariables false
set_option linter.unusedSimpArgs false
set_option linter.unusedVariables false
namespace Go.Proofs.YtajnfkmkombajacGreatDoor
open Go Go.RowKit Go.Maps

/-- the lines of what is given -/
def linesOf (l : List LineX) : List ByteArray := l.filterMap (fun x => lineB x.word x.ns)
theorem linesOf_take (l : List LineX) (m : Nat) : (linesOf l).take (linesOf (l.take m)).length = linesOf (l.take m) := by
  have h : linesOf l = linesOf (l.take m) ++ linesOf (l.drop m) := by
    unfold linesOf
    rw [← List.filterMap_append, List.take_append_drop]
  rw [h, List.take_left]
theorem linesOf_le (l : List LineX) (m : Nat) : (linesOf (l.take m)).length ≤ (linesOf l).length := by
  have h : linesOf l = linesOf (l.take m) ++ linesOf (l.drop m) := by
    unfold linesOf
    rw [← List.filterMap_append, List.take_append_drop]
  rw [h, List.length_append]; omega
theorem linesOf_none {l : List LineX} {j : Nat} {x : LineX} (hx : l[j]? = some x) (h : lineB x.word x.ns = none) : linesOf (l.take (j + 1)) = linesOf (l.take j) := by
  rw [List.take_add_one, hx]
  unfold linesOf
  rw [List.filterMap_append]
  simp [h]
theorem linesOf_some {l : List LineX} {j : Nat} {x : LineX} {s : ByteArray} (hx : l[j]? = some x) (h : lineB x.word x.ns = some s) : linesOf (l.take (j + 1)) = linesOf (l.take j) ++ [s] := by
  rw [List.take_add_one, hx]
  unfold linesOf
  rw [List.filterMap_append]
  simp [h]
theorem scriptA_take (sd : Nat) (l : List ByteArray) (k : Nat) (hk : k ≤ l.length) (x : CS) : (CS.scriptA sd l x).take k = CS.scriptA sd (l.take k) x := by
  conv => lhs; rw [← List.take_append_drop k l, CS.scriptA_append]
  have : (CS.scriptA sd (l.take k) x).length = k := by rw [CS.scriptA_len, List.length_take]; omega
  exact List.take_left' this

set_option maxRecDepth 8000 in
theorem RdR.str_hi {w : World} {ao : Option Addr} {len cap : Nat} {l : List ByteArray} (R : RdR strE 1 w ao len cap l) (k : Nat) (hk : k ≤ len) (wx : World) :
    (Instr.slice 93 (.slice ao len cap) none (some (.int .i64 k)) none).run Tryz.prog wx = .ok (.slice ao k cap) wx := by
  have hc := R.lc
  have hsz : (sizeOf (Tryz.prog.elem 93)).run Tryz.prog wx = .ok 1 wx := by kernel_rfl
  have h0 : ∀ x : Addr, x.add 0 = x := fun x => by
    obtain ⟨b, off, sp⟩ := x
    unfold Addr.add
    split <;> simp_all
  rw [run_slice_h wx 93 ao len cap Tryz.underlying93 .i64 k (by omega) (by omega), hsz]
  simp only [Result.andThen, sliced, Int.toNat_natCast, Nat.zero_mul, Nat.sub_zero]
  cases ao with
  | none => simp
  | some a => simp [h0]

/-- append(l, m...) of strings, onto nothing -/
theorem wpList_append_strs {ops : Array Oper} {rest : List Oper} {o : Oper} {a : Act} {Q : Exit → Act → World → Prop} (w : World) (hgd : o.guard = none) (s x : Operand)
    (ho : o.op = .call { callee := .builtin .append, args := #[s, x], argTypes := #[93, 93] }) (base : Nat) (hs : a.eval s = .slice none 0 0)
    (ao : Option Addr) (len cap : Nat) (zs : List ByteArray) (hx : a.eval x = .slice ao len cap) (R : RdR strE 1 w ao len cap zs) (h63 : len ≤ 1000) (hbase : base ≤ w.heap.size)
    (h : ∀ v' w', w'.ownsRow base 9 1 v' len (zs.map Value.string) → w.grownBy w' none → wpList Tryz.prog ops Q rest (a.put o.dst v') w') : wpList Tryz.prog ops Q (o :: rest) a w := by
  obtain ⟨i0, hi, hz0, hz1, hz2⟩ := info_parts Tryz.infoStr
  refine wpList_plain hgd fun K hK => ?_
  have hr : ∃ v' w', (Builtin.append_ #[93, 93] o.type #[.slice none 0 0, .slice ao len cap]).run Tryz.prog w = .ok v' w' ∧ w'.ownsRow base 9 1 v' len (zs.map Value.string) ∧ w.grownBy w' none := by
    cases ao with
    | none =>
      obtain rfl : cap = 0 := R.nul rfl
      obtain rfl : len = 0 := by have := R.lc; omega
      obtain rfl : zs = [] := List.eq_nil_of_length_eq_zero R.size
      have hrun := run_append_owned_none (P := Tryz.prog) (w := w) base 93 o.type 9 i0 1 Tryz.underlying93 hi (.slice none 0 0) 0 [] (World.ownsRow_nil _ _ _ _)
      exact ⟨_, w, hrun, World.ownsRow_nil _ _ _ _, ⟨rfl, rfl, rfl, Nat.le_refl _, fun _ _ _ => rfl⟩⟩
    | some b =>
      have hcs : ∀ j u, (zs.map Value.string)[j]? = some u → w.cell? (b.add j) = some u := by
        intro j u hj
        rw [List.getElem?_map] at hj
        obtain ⟨y, hy, rfl⟩ := Option.map_eq_some_iff.1 hj
        obtain ⟨bb, off, ha, hbl, hc⟩ := R.cells j y hy
        cases ha
        have := hc 0 (by decide)
        simp only [strE, List.getElem?_cons_zero, Nat.add_zero, Nat.mul_one] at this
        rw [Addr.add_lit, this]
      obtain ⟨v', w', hr, h2, h3, _⟩ := run_append_own (P := Tryz.prog) w base 93 o.type 9 i0 (.string ⟨#[]⟩) 1 16 Tryz.underlying93 hi hz0 hz1 hz2 rfl (by decide) (.slice none 0 0) 0 [] (World.ownsRow_nil _ _ _ _) b len cap (zs.map Value.string) (by rw [List.length_map, R.size, Nat.mul_one]) hcs (by intro u hu; obtain ⟨y, _, rfl⟩ := List.mem_map.1 hu; rfl) (by unfold maxLen; omega) (by omega) hbase
      rw [Nat.zero_add] at h2
      exact ⟨v', w', hr, h2, h3⟩
  obtain ⟨v', w', hr, h2, h3⟩ := hr
  unfold Oper.wp execOp
  simp only [ho, resolve, invoke, builtin, Sem.run_bind, Sem.run_pure, Result.andThen_ok, List.map_toArray, List.map_cons, List.map_nil, hs, hx, hr]
  exact hK _ _ (h v' w' h2 h3)

set_option maxRecDepth 8000 in
set_option maxHeartbeats 2000000 in
theorem again_bad (A : Nat → Addr) (sd : Nat) (ao : Option Addr) (len cap : Nat) (cut : Int) (w : World) (h : Lw A w) (hbad : 40 < len ∨ len ≤ 40 ∧ cut < 0 ∨ len ≤ 40 ∧ 0 ≤ cut ∧ (len : Int) < cut) :
    Calls Tryz.prog 12 #[.int .u64 sd, .slice ao len cap, .int .i64 cut] w fun e w' => e = .returned (.bool true) ∧ Below w.heap.size w w' := by
  have HH := Lib.hid (law_hello A w h)
  clear h
  rcases hbad with d1 | ⟨d1, d2⟩ | ⟨d1, d2, d3⟩
  · have e1 : decide ((40 : Int) < (len : Int)) = true := decide_eq_true (by omega)
    have e1' : decide (40 < len) = true := decide_eq_true d1
    go_enter Tryz.func12, Tryz.ntmps12
    go_wp2_with fail
    refine HH.out.mono ?_
    rintro e w1 ⟨rfl, b1⟩
    go_wp2_with fail
    go_ret
    exact ⟨rfl, b1⟩
  · have e1 : decide ((40 : Int) < (len : Int)) = false := decide_eq_false (by omega)
    have e1' : decide (40 < len) = false := decide_eq_false (by omega)
    have e2 : decide (cut < 0) = true := decide_eq_true d2
    clear d1 d2
    go_enter Tryz.func12, Tryz.ntmps12
    go_wp2_with fail
    refine HH.out.mono ?_
    rintro e w1 ⟨rfl, b1⟩
    go_wp2_with fail
    go_ret
    exact ⟨rfl, b1⟩
  · have e1 : decide ((40 : Int) < (len : Int)) = false := decide_eq_false (by omega)
    have e1' : decide (40 < len) = false := decide_eq_false (by omega)
    have e2 : decide (cut < 0) = false := decide_eq_false (by omega)
    have e3 : decide ((len : Int) < cut) = true := decide_eq_true d3
    clear d1 d2 d3
    go_enter Tryz.func12, Tryz.ntmps12
    go_wp2_with fail
    refine HH.out.mono ?_
    rintro e w1 ⟨rfl, b1⟩
    go_wp2_with fail
    go_ret
    exact ⟨rfl, b1⟩
end Go.Proofs.YtajnfkmkombajacGreatDoor
namespace Go.Proofs.YtajnfkmkombajacGreatDoor
open Go Go.RowKit Go.Maps

set_option maxRecDepth 8000 in
set_option maxHeartbeats 4000000 in
theorem again_ok (A : Nat → Addr) (sd : Nat) (hs : sd < 18446744073709551616) (ao : Option Addr) (len cap : Nat) (ls : List LineX) (cn : Nat) (w : World) (h : Lw A w) (R : RdR LineX.enc 2 w ao len cap ls) (hok : ∀ x ∈ ls, x.ok w) (h40 : len ≤ 40) (hcn : cn ≤ len) :
    Calls Tryz.prog 12 #[.int .u64 sd, .slice ao len cap, .int .i64 cn] w fun e w' => e = .returned (.bool true) ∧ Below w.heap.size w w' := by
  obtain ⟨i0, hi, hz0, hz1, hz2⟩ := info_parts Tryz.infoStr
  have HH := Lib.hid (law_hello A w h)
  have HL := Lib.hid h
  have HR := Lib.hid R
  have HOK := Lib.hid hok
  have HCN := Lib.hid hcn
  have HSD := Lib.hid hs
  have HSZ := Lib.hid R.size
  have e1 : decide ((40 : Int) < (len : Int)) = false := decide_eq_false (by omega)
  have e1' : decide (40 < len) = false := decide_eq_false (by omega)
  have e3 : decide ((len : Int) < (cn : Int)) = false := decide_eq_false (by omega)
  have e3' : decide (len < cn) = false := decide_eq_false (by omega)
  clear h R hok hcn hs
  go_enter Tryz.func12, Tryz.ntmps12
  go_wp2_with fail
  refine HH.out.mono ?_
  rintro e wh ⟨rfl, bh⟩
  have HBH := Lib.hid bh; clear bh HH
  go_wp2_with fail
  go_loopg [8, 9, 10] len (fun g out ah i wr => ∃ (j q : Nat) (LS : List ByteArray), g + j = len ∧ i = .int .i64 j ∧ ah = .int .i64 q ∧ LS = linesOf (ls.take j) ∧ q = (linesOf (ls.take (min j cn))).length ∧ wr.ownsRow w.heap.size 9 1 out LS.length (LS.map Value.string) ∧ Below w.heap.size w wr ∧ (∀ s ∈ LS, s.size ≤ 100000) ∧ LS.length ≤ j)
  case atStart => exact ⟨0, 0, [], rfl, rfl, rfl, rfl, by simp [linesOf], World.ownsRow_nil _ _ _ _, HBH.out, (fun s hs => by cases hs), Nat.le_refl _⟩
  case round =>
    obtain ⟨j, q, LS, hg, rfl, rfl, hls, hq, ho, hb, hsz, hlj⟩ := hrel
    have HG := Lib.hid hg; have HLS := Lib.hid hls; have HQ := Lib.hid hq; have HO := Lib.hid ho; have HB := Lib.hid hb; have HLZ := Lib.hid hsz; have HLJ := Lib.hid hlj
    clear hg hls hq ho hb hsz hlj
    by_cases hlt : j < len
    · obtain ⟨x, hx⟩ : ∃ x, ls[j]? = some x := ⟨_, List.getElem?_eq_getElem (by have := HSZ.out; omega)⟩
      obtain ⟨bb, off, rfl, hbl, hcs⟩ := (HR.out.below HB.out).cells j x hx
      obtain ⟨hxr, hxw⟩ := HOK.out x (List.mem_of_getElem? hx)
      have c0 := hcs 0 (by decide)
      have c1 := hcs 1 (by decide)
      have HN1 := Lib.hid (fun (e : lineB x.word x.ns = none) => linesOf_none hx e)
      have HN2 := Lib.hid (fun (s : ByteArray) (e : lineB x.word x.ns = some s) => linesOf_some hx e)
      have hxn : ∀ n ∈ x.ns, n ≤ 9223372036854775807 := fun n hn => by
        have := hxw n hn
        simp [Lit.wf, IntKind.min, IntKind.max, IntKind.signed, IntKind.bits] at this
        omega
      have HXR := Lib.hid (hxr.below HB.out)
      have HXN := Lib.hid hxn
      have hx5 := hxr.size
      obtain ⟨wd, xa, xl, xc, xn⟩ := x
      simp only at HXR HXN HN1 HN2 hx5
      simp only [LineX.enc, List.getElem?_cons_zero, List.getElem?_cons_succ, Nat.add_zero] at c0 c1
      have hxm : xl ≤ 9223372036854775807 := by have := HXR.out.lc; have := HXR.out.cm; unfold maxLen at *; omega
      clear hcs hx hxr hxw hxn hbl
      by_cases h5 : 5 < xl
      · have f5 : decide ((5 : Int) < (xl : Int)) = true := decide_eq_true (by omega)
        have f5' : decide (5 < xl) = true := decide_eq_true h5
        clear h5 hxm hx5
        go_wp2_with fail
        go_ret
        exact ⟨rfl, HB.out⟩
      · have f5 : decide ((5 : Int) < (xl : Int)) = false := decide_eq_false (by omega)
        have f5' : decide (5 < xl) = false := decide_eq_false h5
        clear h5 hxm
        by_cases h60 : 60 < wd.size
        · have f6 : decide ((60 : Int) < (wd.size : Int)) = true := decide_eq_true (by omega)
          have f6' : decide (60 < wd.size) = true := decide_eq_true h60
          clear h60 hx5
          go_wp2_with fail
          go_ret
          exact ⟨rfl, HB.out⟩
        · have f6 : decide ((60 : Int) < (wd.size : Int)) = false := decide_eq_false (by omega)
          have f6' : decide (60 < wd.size) = false := decide_eq_false h60
          have HCALL := Lib.hid (fun (wx : World) (k : Below wr.heap.size wr wx) => law_lineOf wd xa xl xc xn wx (HXR.out.below k) (by omega) HXN.out)
          have HSS := Lib.hid (fun (s : ByteArray) (e : lineB wd xn = some s) => show s.size ≤ 100000 from by
            unfold lineB at e
            split at e
            · next hc =>
              cases e
              have hf := formT_len (cmdOf wd.data.toList)
              have hpos : ∀ n ∈ xn, 0 ≤ n ∧ n ≤ 9223372036854775807 := fun n hn => by
                refine ⟨?_, HXN.out n hn⟩
                obtain ⟨i, hi⟩ := List.getElem?_of_mem hn
                have hil : i < xn.length := (List.getElem?_eq_some_iff.1 hi).1
                obtain ⟨c, hcc⟩ : ∃ c, (formT (cmdOf wd.data.toList))[i]? = some c := ⟨_, List.getElem?_eq_getElem (by omega)⟩
                have hzz : ((formT (cmdOf wd.data.toList)).zip xn)[i]? = some (c, n) := by rw [List.getElem?_zip_eq_some]; exact ⟨hcc, hi⟩
                have := List.all_eq_true.1 hc.2.2 (c, n) (List.mem_of_getElem? hzz)
                unfold fitB at this
                simp only [Bool.and_eq_true, decide_eq_true_eq] at this
                exact this.1
              have := lineT_size wd xn hpos
              omega
            · cases e)
          clear h60 hx5
          cases hlb : lineB wd xn with
          | none =>
            rw [hlb] at HCALL
            have HLN := Lib.hid (HN1.out hlb)
            simp only [lineV, Option.getD_none, Option.isSome_none] at HCALL
            clear hlb HN1 HN2 HSS
            by_cases hjc : j < cn
            · have d4 : decide ((j : Int) < (cn : Int)) = true := decide_eq_true (by omega)
              go_wp2_with fail
              refine (HCALL.out _ (Below.refl _ _)).mono ?_
              rintro e w2 ⟨rfl, b2⟩
              have HB2 := Lib.hid (btrans HB.out b2)
              have HO2 := Lib.hid (ownsRow_other HO.out (fun g hg => b2.block g (HO.out.lt g hg).2) (w' := w2))
              obtain ⟨vo, vc, rfl, -⟩ := RdR.own_str HO2.out
              clear b2
              go_wp2_with fail
              have hg := HG.out
              go_roundg (len - (j + 1))
              case measure => omega
              case rel => exact ⟨j + 1, LS.length, LS, by omega, by go_num, by go_num, by rw [HLN.out]; exact HLS.out, by rw [Nat.min_eq_left (by omega), HLN.out, ← HLS.out], HO2.out, HB2.out, HLZ.out, by have := HLJ.out; omega⟩
            · have d4 : decide ((j : Int) < (cn : Int)) = false := decide_eq_false (by omega)
              go_wp2_with fail
              refine (HCALL.out _ (Below.refl _ _)).mono ?_
              rintro e w2 ⟨rfl, b2⟩
              have HB2 := Lib.hid (btrans HB.out b2)
              have HO2 := Lib.hid (ownsRow_other HO.out (fun g hg => b2.block g (HO.out.lt g hg).2) (w' := w2))
              clear b2
              go_wp2_with fail
              have hg := HG.out
              go_roundg (len - (j + 1))
              case measure => omega
              case rel => exact ⟨j + 1, q, LS, by omega, by go_num, by go_num, by rw [HLN.out]; exact HLS.out, by rw [HQ.out, Nat.min_eq_right (by omega), Nat.min_eq_right (by omega)], HO2.out, HB2.out, HLZ.out, by have := HLJ.out; omega⟩
          | some s =>
            rw [hlb] at HCALL
            have HLN := Lib.hid (HN2.out s hlb)
            have hss := HSS.out s hlb
            simp only [lineV, Option.getD_some, Option.isSome_some] at HCALL
            have HZ1 := Lib.hid (show ∀ t ∈ LS ++ [s], t.size ≤ 100000 from fun t ht => by
              rcases List.mem_append.1 ht with q1 | q1
              · exact HLZ.out t q1
              · obtain rfl := List.mem_singleton.1 q1; exact hss)
            have HLJ1 := Lib.hid (show (LS ++ [s]).length ≤ j + 1 by rw [List.length_append]; have := HLJ.out; simp; omega)
            have hl40 : LS.length ≤ 40 := by have := HLJ.out; omega
            clear hlb HN1 HN2 HSS hss
            by_cases hjc : j < cn
            · have d4 : decide ((j : Int) < (cn : Int)) = true := decide_eq_true (by omega)
              go_wp2_with fail
              refine (HCALL.out _ (Below.refl _ _)).mono ?_
              rintro e w2 ⟨rfl, b2⟩
              have HB2 := Lib.hid (btrans HB.out b2)
              have HO2 := Lib.hid (ownsRow_other HO.out (fun g hg => b2.block g (HO.out.lt g hg).2) (w' := w2))
              clear b2
              go_wp2_with (at_builtin; refine wpList_append_lies _ rfl (.tmp 68) (.tmp 70) 93 rfl w.heap.size 9 i0 (.string ⟨#[]⟩) 1 16 Tryz.underlying93 hi hz0 hz1 hz2 rfl (by decide) u8 LS.length (LS.map Value.string) rfl (HO2.out.alloc _) ⟨_, 0, none⟩ 1 1 [.string s] rfl rfl (cell_one_at _ _ _ _ (by simp)) (by intro u hu; simp at hu; subst hu; rfl) (by decide) (by unfold maxLen; omega) (by omega) (by have := HB2.out.size; simp; omega) _ rfl ?_)
              intro g cp w4 ho2 hg2 hor hgl
              have HO4 := Lib.hid ho2
              have HB4 := Lib.hid ((HB2.out.alloc HB2.out.size _).grown hg2 (by have := HB2.out.size; simp; omega) (fun k hk => (HO2.out.lt k hk).1))
              clear ho2 hg2 hor hgl
              go_wp2_with fail
              have hg := HG.out
              go_roundg (len - (j + 1))
              case measure => omega
              case rel => exact ⟨j + 1, LS.length + 1, LS ++ [s], by omega, by go_num, by go_num, by rw [HLN.out, ← HLS.out], by rw [Nat.min_eq_left (by omega), HLN.out, ← HLS.out, List.length_append]; rfl, by rw [List.length_append, List.map_append]; exact HO4.out, HB4.out, HZ1.out, HLJ1.out⟩
            · have d4 : decide ((j : Int) < (cn : Int)) = false := decide_eq_false (by omega)
              go_wp2_with fail
              refine (HCALL.out _ (Below.refl _ _)).mono ?_
              rintro e w2 ⟨rfl, b2⟩
              have HB2 := Lib.hid (btrans HB.out b2)
              have HO2 := Lib.hid (ownsRow_other HO.out (fun g hg => b2.block g (HO.out.lt g hg).2) (w' := w2))
              clear b2
              go_wp2_with (at_builtin; refine wpList_append_lies _ rfl (.tmp 68) (.tmp 70) 93 rfl w.heap.size 9 i0 (.string ⟨#[]⟩) 1 16 Tryz.underlying93 hi hz0 hz1 hz2 rfl (by decide) u8 LS.length (LS.map Value.string) rfl (HO2.out.alloc _) ⟨_, 0, none⟩ 1 1 [.string s] rfl rfl (cell_one_at _ _ _ _ (by simp)) (by intro u hu; simp at hu; subst hu; rfl) (by decide) (by unfold maxLen; omega) (by omega) (by have := HB2.out.size; simp; omega) _ rfl ?_)
              intro g cp w4 ho2 hg2 hor hgl
              have HO4 := Lib.hid ho2
              have HB4 := Lib.hid ((HB2.out.alloc HB2.out.size _).grown hg2 (by have := HB2.out.size; simp; omega) (fun k hk => (HO2.out.lt k hk).1))
              clear ho2 hg2 hor hgl
              go_wp2_with fail
              have hg := HG.out
              go_roundg (len - (j + 1))
              case measure => omega
              case rel => exact ⟨j + 1, q, LS ++ [s], by omega, by go_num, by go_num, by rw [HLN.out, ← HLS.out], by rw [HQ.out, Nat.min_eq_right (by omega), Nat.min_eq_right (by omega)], by rw [List.length_append, List.map_append]; exact HO4.out, HB4.out, HZ1.out, HLJ1.out⟩
    · have hjl : j = len := by have := HG.out; omega
      subst hjl
      have hz := HSZ.out
      have hls := HLS.out
      rw [List.take_of_length_le (by omega)] at hls
      have hq := HQ.out
      rw [Nat.min_eq_right HCN.out] at hq
      have hqt := linesOf_take ls cn
      rw [← hq, ← hls] at hqt
      have hql : q ≤ LS.length := by rw [hq, hls]; exact linesOf_le _ _
      have hl40 : LS.length ≤ 40 := by have := HLJ.out; omega
      have HLQ := Lib.hid hql
      have HT := Lib.hid (scriptA_take sd LS q hql CS.new)
      have HLA := Lib.hid (show (CS.scriptA sd LS CS.new).length = LS.length from CS.scriptA_len _ _ _)
      obtain ⟨vo, vc, rfl, hv⟩ := RdR.own_str HO.out
      have HV := Lib.hid hv
      have HPZ := Lib.hid (show ∀ s ∈ LS.take q, s.size ≤ 100000 from fun s hs => HLZ.out s (List.mem_of_mem_take hs))
      have HSL := Lib.hid (fun (wx : World) => hv.str_hi q hql wx)
      have hsl := HSL.out
      clear hz hls hq hqt hv HLS HQ
      go_wp2_with (at_builtin; refine wpList_append_strs _ rfl (.tmp 79) (.tmp 80) rfl wr.heap.size rfl vo LS.length vc LS rfl HV.out (by omega) (Nat.le_refl _) ?_)
      intro v2 w2 ho2 hg2
      have HB2 := Lib.hid (show Below wr.heap.size wr w2 from (Below.refl _ _).grown hg2 (Nat.le_refl _) (fun k hk => by cases hk))
      have HBW := Lib.hid (btrans HB.out HB2.out)
      obtain ⟨ao2, cap2, rfl, R2⟩ := RdR.own_str ho2
      have HR2 := Lib.hid R2
      have h100 : LS.length ≤ 100 := by omega
      have hq100 : q ≤ 100 := by omega
      clear ho2 hg2 R2
      go_wp2_with fail
      refine (scr_Run A sd HSD.out ao2 LS.length cap2 LS w2 (HL.out.below HBW.out) HR2.out HLZ.out h100).mono ?_
      rintro e w3 ⟨va, rfl, b3, o3⟩
      obtain ⟨aa, ca, rfl, RA⟩ := RdR.own_str o3
      have HB3 := Lib.hid (btrans HB2.out b3)
      have HBW3 := Lib.hid (btrans HBW.out b3)
      have hsa := fun (wx : World) => RA.str_hi q hql wx
      have HRA := Lib.hid RA
      clear b3 o3 RA
      rw [ev_nil]
      go_wp2_with fail
      refine (scr_Run A sd HSD.out vo q vc (LS.take q) w3 (HL.out.below HBW3.out) ((HV.out.take HLQ.out).below HB3.out) HPZ.out hq100).mono ?_
      rintro e w4 ⟨vb, rfl, b4, o4⟩
      obtain ⟨ab, cb, rfl, RB⟩ := RdR.own_str o4
      have HBW4 := Lib.hid (btrans HBW3.out b4)
      have HRB := Lib.hid RB
      have HRA4 := Lib.hid (HT.out ▸ ((HRA.out.below b4).take hql))
      clear b4 o4 RB
      rw [ev_nil]
      go_wp2_with fail
      refine (ref_SameTexts aa ab q ca cb (CS.scriptA sd (LS.take q) CS.new) w4 HRA4.out HRB.out).mono ?_
      rintro e w5 ⟨rfl, k5, rfl⟩
      go_wp2_with fail
      go_ret
      exact ⟨rfl, HBW4.out.drewN k5⟩

theorem again_script (A : Nat → Addr) (sd : Nat) (hs : sd < 18446744073709551616) (ao : Option Addr) (len cap : Nat) (ls : List LineX) (cut : Int) (w : World) (h : Lw A w) (R : RdR LineX.enc 2 w ao len cap ls) (hok : ∀ x ∈ ls, x.ok w) :
    Calls Tryz.prog 12 #[.int .u64 sd, .slice ao len cap, .int .i64 cut] w fun e w' => e = .returned (.bool true) ∧ Below w.heap.size w w' := by
  by_cases hbad : 40 < len ∨ len ≤ 40 ∧ cut < 0 ∨ len ≤ 40 ∧ 0 ≤ cut ∧ (len : Int) < cut
  · exact again_bad A sd ao len cap cut w h hbad
  · obtain ⟨cn, rfl⟩ := Int.eq_ofNat_of_zero_le (show 0 ≤ cut by omega)
    exact again_ok A sd hs ao len cap ls cn w h R hok (by omega) (by omega)
end Go.Proofs.YtajnfkmkombajacGreatDoor
namespace Go.Proofs.YtajnfkmkombajacGreatDoor
open Go Go.RowKit Go.ChangeShapes

/-- the wrap with a condition on the world and the world's shape -/
theorem handed_and_shaped {H : Type} {enc : TypeId × Value → H} {a : Assume} {C : Checked} {os : Os} {f : FuncId} {fn : Func} {s : ChangeSpec} {conds : List PathCond} {apart fresh handsOn again : Bool} {X : World → Array Value → Prop}
    (hX : ∀ (w w' : World) (args : Array Value), w.heap = w'.heap → X w args → X w' args)
    (own : ownKnob C.prog.godebug = none) (started : os.Started) (noInit : C.prog.inits.idxOf? f = none) (hfn : C.prog.funcs[f]? = some fn)
    (witness : ∃ (w : World) (tape : Tape) (i : Input), w.os = os ∧ (w.forCall tape i).Shaped C.prog ∧ i.vars = [] ∧ Input.okWide C.prog (w.forCall tape i) .any w.heap.size f i ∧
      ((s.pre enc C.prog fn conds apart (w.forCall tape i).memory i.args ∧ X (w.forCall tape i).memory i.args) ∧ sizedMet enc C.prog fn (OpenSpec.ofChange s) apart (w.forCall tape i).memory i.args) ∧ a.holds C.prog (lone (Frame.enter C.prog f i.args .normal) [] (w.forCall tape i)))
    (contract : ∀ (W : World) (base : Nat) (args : Array Value) (ds gs : List (DataW H)) (before : List MemPlace),
      (∀ (j : Nat) t v, fn.params[j]? = some t → args[j]? = some v → Value.okWide C.prog W .any base t v) →
      DataW.Whole enc C.prog fn.params.toList s.vars apart W args.toList ds gs before →
      conds.all (PathCond.test C.prog ⟨fn.params.toList, ds, s.plain.varTypes C.prog, gs⟩) = true →
      (DataW.weightsEach C.prog (fn.params.toList ++ s.plain.varTypes C.prog) (ds ++ gs)).all (· ≤ reachBytes) = true → X W args → W.ShapedOpen C.prog →
      a.holds C.prog (lone (Frame.enter C.prog f args .normal) [] W) →
      Calls C.prog f args W fun e W' => ∃ v, e = .returned v ∧ s.post enc C.prog fn apart fresh handsOn again W args v W') :
    ReturnsInHanded a C os f .any (fun w args => (s.pre enc C.prog fn conds apart w args ∧ X w args) ∧ sizedMet enc C.prog fn (OpenSpec.ofChange s) apart w args) (s.post enc C.prog fn apart fresh handsOn again) := by
  refine returnsInHanded_of_calls own started noInit witness ?_
  intro w tape i _ hsh _ hok hpre hholds
  obtain ⟨_, _, _, fn', hfn', _, _, _, _, hval⟩ := hok
  have e : fn' = fn := Option.some.inj (hfn'.symm.trans hfn)
  subst e
  obtain ⟨⟨⟨ds, gs, before, hw, hc⟩, hx⟩, hz⟩ := hpre
  have hw' := DataW.Whole.of_heap (w' := w.forCall tape i) (by rfl) hw
  refine (contract (w.forCall tape i) w.heap.size i.args ds gs before hval hw' hc (hz.weights hw) (hX _ _ _ (by rfl) hx) hsh hholds).mono fun e W' ⟨v, he, hp⟩ => ?_
  subst he
  exact ChangeSpec.post_blind hp

def sentD (text : List UInt8) : DataW Unit := .iface "*errors.errorString" (.ptr (.agg [.lit (.string text)]))
def apiName : Nat → String
  | 1 => "bakehouse/api.ErrText"
  | 2 => "bakehouse/api.ErrBound"
  | 3 => "bakehouse/api.ErrShape"
  | 4 => "bakehouse/api.ErrNone"
  | 5 => "bakehouse/api.ErrExist"
  | 6 => "bakehouse/api.ErrShort"
  | 7 => "bakehouse/api.ErrSmall"
  | 8 => "bakehouse/api.ErrGone"
  | 9 => "bakehouse/api.ErrTurn"
  | _ => "bakehouse/api.ErrOld"
def sentRow (c : Nat) : String × DataW Unit := (apiName c, sentD (errHead ++ errTail c))
/-- errors.errorType and the ten sentinels, in a row's order -/
def laidE : List (String × DataW Unit) := ("errors.errorType", DataW.iface "internal/reflectlite.rtype" (.agg [.ptr (.lit (.string errorName))])) :: [1, 2, 3, 4, 5, 6, 7, 8, 9, 10].map sentRow
def laidKeep : List String := "errors.errorType" :: [1, 2, 3, 4, 5, 6, 7, 8, 9, 10].map apiName

theorem laidE_as : LaidAs [1, 2, 3, 4, 5, 6, 7, 8, 9, 10] (laidE.filter fun x => x.2.handleName?.isNone) := by
  rw [show (laidE.filter fun x => x.2.handleName?.isNone) = [1, 2, 3, 4, 5, 6, 7, 8, 9, 10].map sentRow from by kernel_rfl]
  refine ⟨⟨by decide, by decide, by kernel_rfl, by kernel_rfl, _, rfl⟩, ⟨⟨by decide, by decide, by kernel_rfl, by kernel_rfl, _, rfl⟩, ⟨⟨by decide, by decide, by kernel_rfl, by kernel_rfl, _, rfl⟩, ⟨⟨by decide, by decide, by kernel_rfl, by kernel_rfl, _, rfl⟩, ⟨⟨by decide, by decide, by kernel_rfl, by kernel_rfl, _, rfl⟩, ⟨⟨by decide, by decide, by kernel_rfl, by kernel_rfl, _, rfl⟩, ⟨⟨by decide, by decide, by kernel_rfl, by kernel_rfl, _, rfl⟩, ⟨⟨by decide, by decide, by kernel_rfl, by kernel_rfl, _, rfl⟩, ⟨⟨by decide, by decide, by kernel_rfl, by kernel_rfl, _, rfl⟩, ⟨⟨by decide, by decide, by kernel_rfl, by kernel_rfl, _, rfl⟩, trivial⟩⟩⟩⟩⟩⟩⟩⟩⟩⟩

/-- one listed error variable: what it holds, and the text behind it -/
theorem sent_of_laid {W : World} {L : List (String × DataW Unit)} (hL : laidMetH Tryz.prog L W) {n : String} {text : List UInt8} {g : Nat} (hf : (L.filter fun x => x.1 == n) = [(n, sentD text)])
    (hg : Tryz.prog.globalNamed n = some g) (ht : (Tryz.prog.globals[g]?).map (·.type) = some 51) :
    ∃ a, W.cell? ⟨g, 0, none⟩ = some (.iface 386 (.pointer (some a))) ∧ W.cell? a = some (.string (bstr text)) := by
  have h := hL.filter (fun x => x.1 == n)
  rw [hf] at h
  have h1 := (laidMetH_iff.1 h).1
  rw [show ([(n, sentD text)].filter fun x : String × DataW Unit => x.2.handleName?.isNone) = [(n, sentD text)] from rfl] at h1
  obtain ⟨a, s, hv, hc, htx, _⟩ := laid_sentinel h1 hg ht Tryz.underlying51 Tryz.rowErr Tryz.underlying386 Tryz.underlying388 rfl rfl Tryz.underlying9 Tryz.cellsErr Tryz.cellsStr
  refine ⟨a, by simpa using World.var?_cell hg hv 0, ?_⟩
  rw [hc, ← htx]
  simp [bstr]

theorem laidE_at : ∀ c ∈ [1, 2, 3, 4, 5, 6, 7, 8, 9, 10], (laidE.filter fun x => x.1 == apiName c) = [(apiName c, sentD (errHead ++ errTail c))] ∧ Tryz.prog.globalNamed (apiName c) = some (gE c) ∧ (Tryz.prog.globals[gE c]?).map (·.type) = some 51 := by
  intro c hc
  simp only [List.mem_cons, List.mem_nil_iff, or_false] at hc
  rcases hc with rfl | rfl | rfl | rfl | rfl | rfl | rfl | rfl | rfl | rfl
  all_goals exact ⟨by kernel_rfl, by kernel_rfl, by kernel_rfl⟩

theorem lw_of_laid {W : World} {L : List (String × DataW Unit)} (hL : laidMetH Tryz.prog L W) (hsh : W.ShapedOpen Tryz.prog) (e1 : (L.filter fun x => laidKeep.contains x.1) = laidE)
    (e2 : (L.filter fun x => x.1 == "internal/strconv.uint64pow10") = [("internal/strconv.uint64pow10", Lib.tabData .u64 Lib.pow10Tab)]) {t3 t4 : List UInt8}
    (e3 : (L.filter fun x => x.1 == "strconv.ErrSyntax") = [("strconv.ErrSyntax", sentD t3)]) (e4 : (L.filter fun x => x.1 == "strconv.ErrRange") = [("strconv.ErrRange", sentD t4)]) : ∃ A, Lw A W := by
  have hE := hL.filter (fun x => laidKeep.contains x.1)
  rw [e1] at hE
  obtain ⟨A, hS⟩ := sents_of_laid hE laidE_as (List.Mem.head _) (by kernel_rfl)
  refine ⟨A, hS, fun c h1 h2 => ?_, ?_, ?_, ?_, ?_⟩
  · have hc : c ∈ [1, 2, 3, 4, 5, 6, 7, 8, 9, 10] := by simp; omega
    obtain ⟨f1, f2, f3⟩ := laidE_at c hc
    obtain ⟨a, a1, a2⟩ := sent_of_laid hE f1 f2 f3
    have := hS.errs.cell c hc
    rw [a1, ev_some A (by omega)] at this
    cases this
    exact a2
  · obtain ⟨a, a1, _⟩ := sent_of_laid hL e3 (g := 17) (by kernel_rfl) (by kernel_rfl)
    exact ⟨_, _, a1⟩
  · obtain ⟨a, a1, _⟩ := sent_of_laid hL e4 (g := 18) (by kernel_rfl) (by kernel_rfl)
    exact ⟨_, _, a1⟩
  · have h := hL.filter (fun x => x.1 == "internal/strconv.uint64pow10")
    rw [e2] at h
    have h1 := (laidMetH_iff.1 h).1
    rw [show ([("internal/strconv.uint64pow10", Lib.tabData .u64 Lib.pow10Tab)].filter fun x : String × DataW Unit => x.2.handleName?.isNone) = [("internal/strconv.uint64pow10", Lib.tabData .u64 Lib.pow10Tab)] from by kernel_rfl] at h1
    exact Lib.tabIs_of_head pow10_named (t := 375) (by kernel_rfl) Tryz.underlying375 Tryz.underlying41 (by kernel_rfl) (by kernel_rfl) h1
  · exact Go.Proofs.cell_of_shapedOpen_int (zero := #[.int .i64 0]) (t := 3) hsh (of_decide_eq_true (by kernel_rfl)) (by kernel_rfl) rfl (by kernel_rfl) (by kernel_rfl) Tryz.underlying3
end Go.Proofs.YtajnfkmkombajacGreatDoor
namespace Go.Proofs.YtajnfkmkombajacGreatDoor
open Go

/-- who returns alone returns with others that only leave -/
theorem handed_leaving {a : Assume} {C : Checked} {os : Os} {f : FuncId} {r : Reach} {Pre : World → Array Value → Prop} {Post : World → Array Value → Value → World → Prop} (h : ReturnsInHanded a C os f r Pre Post) : ReturnsInLeavingWide a C os f r Pre Post := fun enter => by
  obtain ⟨h1, h2, h3, h4, h5⟩ := h enter
  refine ⟨h1, h2, h3, h4, fun w tape i hf => ?_⟩
  obtain ⟨n, v, w', k1, k2, k3, k4, ⟨j, last, e1, e2, q, ho, he⟩, al⟩ := h5 w tape i hf
  exact ⟨n, v, w', k1, k2, k3, k4, ⟨j, last, e1, e2, ho, onlyLeaving_of_quiet q, he⟩, al⟩

theorem tied_goes (Lk : Looks) {p : Pinned} {s : OpenSpec} {c : OpenClaim} (kinds : List LaidKind) (tests : Bool) (har : Bool × String) (lk : Bool)
    (hc : c.holds p s) (hw : c.wfByText s = true) (htie : c.laidByTextAt Lk p kinds tests)
    (hst : c.start = .entering) (hnb : c.noBlocks = false ∧ c.again = false) (hm : p.checked.prog.mainIs = some (har.1, har.2.toList)) (hn : (!har.1 && har.2.isEmpty && !lk) = false)
    (hl : ∀ f fn, p.checked.prog.funcNamed c.func = some f → p.checked.prog.funcs[f]? = some fn → lk = p.checked.prog.looks [] ∧ ∀ (j : Nat) t, fn.params[j]? = some t → p.checked.prog.wantsStandIn t = false)
    (hg : true = c.goesBy p.checked.prog) :
    Claim7.holds p (.plain s) { stood := { row := c, standIns := [], harness := har, looks := lk }, kinds := [], alts := [], goes := true, laidByText := true, laidKinds := kinds, laidTests := tests, laidLooks := Lk } := by
  have h6 : ∀ r : OpenClaim, Claim7.isSixth { stood := { row := r, standIns := [], harness := har, looks := lk }, kinds := [] } = false := fun r => by simpa [Claim7.isSixth] using hn
  refine ⟨Claim7.tied_new_at Lk kinds tests (Claim7.new_of_sixth hc har lk hst hnb hm (h6 c) hl) hw, (fun D hD => by cases hD), htie, (fun h => by cases h), hg⟩
end Go.Proofs.YtajnfkmkombajacGreatDoor
