/-
  A new chain.
  Contracts of errors.Is at sentinels of errors.New's make: lines of the worked proof SentryIs, turned to this program. 26: how many package-level variables the dump has (by-name's 'g' rows); 526: the fuel of Go.method in the walk's goal.
  Contracts of errors.As at a target **api.Fault: lines of the worked example ToyasAs, turned to this program.
-/
import Derived.Test.YtajnfkmkombajacGreatDoorQPA22
import Derived.Deep.RegionLaw
import Derived.Test.YtajnfkmkombajacGreatDoorQPA01
import Derived.Test.YtajnfkmkombajacGreatDoorChecked
import Derived.WalkKit
import Derived.LaidEql
import Derived.Stop.Asserts
import Derived.RowKitTokens
set_option linter.unusedVariables false
set_option linter.unusedSimpArgs false
set_option linter.unusedVariables false
namespace Go.Proofs.YtajnfkmkombajacGreatDoor
open Go.RowKit Go.Maps

def noF : Nat → Prop := fun _ => False
theorem noFE (S : List Nat) : ∀ c ∈ S, ¬ noF (gE c) := fun _ _ h => h
/-- a purse, stakes and a court that are new, and the chain's own block -/
theorem chain_begin {w w1 w2 w3 : World} {sd : Nat} (b1 : Below w.heap.size w w1) (hp : PurseAt w.heap.size PS.new w1) (b2 : Below w1.heap.size w1 w2) (hs : StakesAt w1.heap.size (fun k => k = w1.heap.size) 0 SS.new w2)
    (b3 : Below w2.heap.size w2 w3) (hk : CourtAt (w2.heap.size + 1) (fun b => b = w2.heap.size ∨ b = w2.heap.size + 1) 0 KS.new w3) :
    ChGo w noF w3.heap.size ⟨w.heap.size, w1.heap.size, w2.heap.size + 1, fun k => k = w1.heap.size, fun b => b = w2.heap.size ∨ b = w2.heap.size + 1, noF, .slice none 0 0⟩ 0 sd ⟨PS.new, SS.new, KS.new, 0, 0, 0, []⟩
      (w3.alloc (.cells #[.pointer (some ⟨w.heap.size, 0, none⟩), .pointer (some ⟨w1.heap.size, 0, none⟩), .pointer (some ⟨w2.heap.size + 1, 0, none⟩), .int .u64 sd, .int .i64 0, .int .i64 0, .int .i64 0, .slice none 0 0] 59)) := by
  have p1 := hp.lt
  have p2 : w1.heap.size < w2.heap.size := hs.lt rfl
  have p3 : w2.heap.size + 1 < w3.heap.size := hk.lt _ (.inr rfl)
  have ba : Below w3.heap.size w3 (w3.alloc (.cells #[.pointer (some ⟨w.heap.size, 0, none⟩), .pointer (some ⟨w1.heap.size, 0, none⟩), .pointer (some ⟨w2.heap.size + 1, 0, none⟩), .int .u64 sd, .int .i64 0, .int .i64 0, .int .i64 0, .slice none 0 0] 59)) := (Below.refl _ _).alloc (Nat.le_refl _) _
  have hb2 : Below w1.heap.size w1 w3 := btrans b2 b3
  refine ⟨Keep.of_below (btrans (btrans b1 hb2) ba), ⟨RowAt.new w3 59 _, ?_, ?_, hk.below ba, ⟨⟨[], OwnSl.nil _ _ _, rfl, fun i v z hv => by simp at hv⟩, fun g hg => by cases hg⟩, fun b hb => hb.elim, ⟨?_, ?_, ?_, id⟩, ⟨?_, ?_, id⟩, fun b hb => ⟨?_, id⟩, fun b hb => id⟩, fun b hb => .inr ?_, fun b hb => hb.elim⟩
  · exact (hp.keep (F := noF) (Keep.of_below hb2) id).keep (F := noF) (Keep.of_below ba) id
  · exact (hs.below b3).below ba
  · show w3.heap.size ≠ w.heap.size; omega
  · show ¬ (w3.heap.size = w1.heap.size); omega
  · show ¬ (w3.heap.size = w2.heap.size ∨ w3.heap.size = w2.heap.size + 1); omega
  · show ¬ (w.heap.size = w1.heap.size); omega
  · show ¬ (w.heap.size = w2.heap.size ∨ w.heap.size = w2.heap.size + 1); omega
  · have : b = w1.heap.size := hb
    show ¬ (b = w2.heap.size ∨ b = w2.heap.size + 1); omega
  · have hsz := b1.size
    have e : (w3.alloc (.cells #[.pointer (some ⟨w.heap.size, 0, none⟩), .pointer (some ⟨w1.heap.size, 0, none⟩), .pointer (some ⟨w2.heap.size + 1, 0, none⟩), .int .u64 sd, .int .i64 0, .int .i64 0, .int .i64 0, .slice none 0 0] 59)).heap.size = w3.heap.size + 1 := by simp
    rw [e]
    rcases hb with hb | hb | hb | hb | hb
    · omega
    · have : b = w.heap.size := hb
      omega
    · have : b = w1.heap.size := hb
      omega
    · have : b = w2.heap.size ∨ b = w2.heap.size + 1 := hb
      omega
    · exact hb.elim

theorem first_six : PS.first 6 = firstP 0 := rfl
theorem first_none : SS.new = firstS 0 := rfl
theorem firstC_of (k : Nat) (pics : List (List Int)) : firstC k pics = ⟨firstP k, firstS k, KS.new, 0, 0, 0, pics⟩ := rfl

section
variable (A : Nat → Addr) (S : List Nat) (sd : Nat) (w : World)
set_option maxRecDepth 8000 in
set_option maxHeartbeats 2000000 in
theorem chain_New (hE : Errs A S w) (h2 : 2 ∈ S) (h4 : 4 ∈ S) (h5 : 5 ∈ S) (h6 : 6 ∈ S) (h7 : 7 ∈ S) (h8 : 8 ∈ S) :
    Calls Tryz.prog 32 #[.int .u64 sd] w fun e w' => ∃ cb K, e = .returned (.pointer (some ⟨cb, 0, none⟩)) ∧ ChGo w noF cb K 3 sd CS.new w' := by
  have HE := Lib.hid hE; clear hE
  go_enter Tryz.func32, Tryz.ntmps32
  go_wp2_with fail
  refine (purse_New _).mono ?_
  rintro e w1 ⟨rfl, b1, hp⟩
  go_wp2_with fail
  refine (stake_New _).mono ?_
  rintro e w2 ⟨rfl, b2, hs⟩
  go_wp2_with fail
  refine (court_New _).mono ?_
  rintro e w3 ⟨rfl, b3, hk⟩
  have H0 := Lib.hid (chain_begin (sd := sd) b1 hp b2 hs b3 hk)
  clear b1 hp b2 hs b3 hk
  generalize hK0 : (⟨w.heap.size, w1.heap.size, w2.heap.size + 1, fun k => k = w1.heap.size, fun b => b = w2.heap.size ∨ b = w2.heap.size + 1, noF, .slice none 0 0⟩ : ChL) = K0 at H0
  clear hK0
  go_wp2_with fail
  generalize hcb : w3.heap.size = cb at *
  clear hcb
  go_loopg [12] 6 (fun g c wr => ∃ k : Nat, g + k = 6 ∧ c = .int .i64 k ∧ ChGo w noF cb K0 0 sd ⟨PS.first k, SS.new, KS.new, 0, 0, 0, []⟩ wr)
  case atStart => exact ⟨0, rfl, rfl, H0.out⟩
  case round =>
    clear H0
    obtain ⟨k, hg, rfl, hh⟩ := hrel
    have HG := Lib.hid hg; have H := Lib.hid hh; clear hg hh
    by_cases hk : k < 6
    · have c0 := H.out.c0
      have HST := Lib.hid (PS.first_step hk)
      go_wp2_with fail
      refine (purse_Mint A S K0.pb (PS.first k) k 10000 _ (H.out.errs HE.out (noFE S)) h2 H.out.ch.purse).mono ?_
      rintro e wz ⟨rfl, ka⟩
      rw [HST.out] at ka ⊢
      have H1 := Lib.hid (H.out.purse ka); clear ka
      go_wp2_with fail
      have hg := HG.out
      go_roundg (6 - (k + 1))
      case measure => omega
      case rel => exact ⟨k + 1, by omega, by go_num, H1.out⟩
    · have hk6 : k = 6 := by have := HG.out; omega
      subst hk6
      have H0 := Lib.hid (show ChGo w noF cb K0 0 sd (firstC 0 []) wr from H.out)
      clear H HG hk
      go_wp2_with fail
      rename World => wa
      go_loopg [22] 3 (fun g c wr => ∃ (k : Nat) (K' : ChL), g + k = 3 ∧ c = .int .i64 k ∧ ChGo w noF cb K' k sd (firstC k []) wr)
      case atStart => exact ⟨0, K0, rfl, rfl, H0.out⟩
      case round =>
        clear H0
        obtain ⟨k, K1, hg, rfl, hh⟩ := hrel
        have HG := Lib.hid hg; have H := Lib.hid hh; clear hg hh
        by_cases hk : k < 3
        · have c1 := H.out.c1
          obtain ⟨s, e1, e2⟩ := first_reg hk
          have HE1 := Lib.hid e1; have HE2 := Lib.hid (e2 []); clear e1 e2
          go_wp2_with fail
          refine (stake_Register A S K1.sb K1.Fs k (firstS k) k _ H.out.ch.st (H.out.errs HE.out (noFE S)) h2 h5).mono ?_
          rintro e wz ⟨rfl, ka⟩
          rw [HE1.out] at ka ⊢
          have H1 := Lib.hid (show ChGo w noF cb (K1.withS _ wz) k sd ⟨firstP k, s, KS.new, 0, 0, 0, []⟩ wz from H.out.stakes (Nat.le_refl k) ka); clear ka c1
          go_wp2_with fail
          refine (chain_Stake A S w noF cb _ k sd _ wz k k 1000 H1.out HE.out (noFE S) h2 h4 h6 h7 h8 (by unfold maxLen; omega)).mono ?_
          rintro e wy ⟨rfl, K3, ka⟩
          rw [HE2.out] at ka ⊢
          have H2 := Lib.hid ka; clear ka
          go_wp2_with fail
          have hg := HG.out
          go_roundg (3 - (k + 1))
          case measure => omega
          case rel => exact ⟨k + 1, K3, by omega, by go_num, H2.out⟩
        · have hk3 : k = 3 := by have := HG.out; omega
          subst hk3
          have H0 := Lib.hid (show ChGo w noF cb K1 3 sd (firstC 3 (List.replicate 0 pic0)) wr from H.out)
          clear H HG hk
          go_wp2_with fail
          go_loopg [36] 3 (fun g c wr => ∃ (k : Nat) (K' : ChL), g + k = 3 ∧ c = .int .i64 k ∧ ChGo w noF cb K' 3 sd (firstC 3 (List.replicate k pic0)) wr)
          case atStart => exact ⟨0, K1, rfl, rfl, H0.out⟩
          case round =>
            clear H0
            obtain ⟨k, K2, hg, rfl, hh⟩ := hrel
            have HG := Lib.hid hg; have H := Lib.hid hh; clear hg hh
            by_cases hk : k < 3
            · obtain ⟨vs, o1, o2, o3⟩ := H.out.ch.pics.own
              have oblk := H.out.ch.pics.blk
              obtain ⟨i0, hi, hz0, hz1, hz2⟩ := info_parts infoSl
              obtain ⟨va, vc, hv, hvc, hvm⟩ := o1.shape
              have hlen : vs.length = k := by rw [o2]; show (List.replicate k pic0).length = k; simp
              have HPI := Lib.hid (fun wx (hb : Below wr.heap.size wr wx) => right_Picture K2.sb 3 K2.Fs (firstC 3 (List.replicate k pic0)).s wx (H.out.below hb).ch.st)
              have HPQ := Lib.hid (first_picture (List.replicate k pic0))
              have HF := Lib.hid (show ∀ wx, Below wr.heap.size wr wx → wx.cell? ⟨cb, 1, none⟩ = some (.pointer (some ⟨K2.sb, 0, none⟩)) ∧ wx.cell? ⟨cb, 7, none⟩ = some (.slice va k vc) ∧ (∀ ob, (wx.alloc ob).cell? ⟨cb, 7, none⟩ = some (.slice va k vc)) ∧ OwnSl 0 38 (.slice va k vc) vs wx from fun wx hb => by
                have h1 := H.out.below hb
                have hr := h1.ch.row
                have e : K2.pv = .slice va k vc := by rw [hv, hlen]
                refine ⟨h1.c1, by rw [← e]; exact h1.c7, fun ob => by rw [← e]; exact (hr.alloc ob).cell 7, ?_⟩
                rw [← e]
                exact o1.keep (Keep.of_below (F := fun _ => False) hb) (fun _ _ => id))
              have HO3 := Lib.hid o3; have HOB := Lib.hid oblk
              have HV := Lib.hid (show K2.pv = .slice va k vc by rw [hv, hlen])
              have HLN := Lib.hid hlen
              obtain ⟨f1, f7, f7a, -⟩ := HF.out wr (Below.refl _ _)
              have hcap : vc ≤ maxLen := hvm
              have HS := Lib.hid (show ∀ (w2 : World) (ob : Obj) (w5 : World), Below wr.heap.size wr w2 → (w2.alloc ob).grownBy w5 (Value.slice va k vc).ownBlock → w5.cell? ⟨cb, 7, none⟩ = some (.slice va k vc) ∧ w5.frozen? ⟨cb, 7, none⟩ = false from fun w2 ob w5 hb hg => by
                have h1 := H.out.below hb
                have hr : RowAt cb 59 (chainVs K2 sd (firstC 3 (List.replicate k pic0))) w5 := h1.ch.row.keep (((Keep.refl (fun b => K2.pv.ownBlock = some b) w2).alloc ob).grown hg (fun j hj => .inl (by rw [HV.out]; exact hj))) (fun e => H.out.ch.d0.2.2.2 (HOB.out _ e))
                have e : K2.pv = .slice va k vc := HV.out
                refine ⟨?_, hr.frozen 7⟩
                rw [← e]; exact hr.cell 7)
              clear o1 o2 o3 oblk hv hvc hlen f7a hcap hvm
              go_wp2_with fail
              go_region_law ((first
                | (refine step_append_sl rfl (.tmp 42) (.tmp 48) 57 rfl 0 38 i0 (.slice none 0 0) 24 Tryz.underlying57 hi hz0 hz1 hz2 rfl (.slice va k vc) vs rfl (OwnSl.alloc (HF.out w2 H2.out).2.2.2 _) ⟨_, 0, none⟩ (.slice (some ⟨wr.heap.size, 0, none⟩) 3 3) rfl (World.news_of_block (heap_alloc_new _ _)) (by intro u hu; simp at hu; subst hu; rfl) (by rw [HLN.out]; unfold maxLen; omega) (by rw [HLN.out]; omega) (Nat.zero_le _) ?_; intro v2 w5 ho5 hg5 hb5; obtain ⟨za, zc, hv2, -, -⟩ := ho5.shape; rw [List.length_append, HLN.out] at hv2; simp only [List.length_cons, List.length_nil, Nat.zero_add] at hv2; subst hv2; obtain ⟨m7, mf7⟩ := HS.out w2 _ w5 H2.out hg5)
                | (go_simp; go_at_call 29; refine (HPI.out _ ((Below.refl _ _).drewN 1)).mono ?_; rintro e w2 ⟨rfl, hb2, hrow⟩; have H2 := Lib.hid (btrans ((Below.refl _ _).drewN 1) hb2); obtain ⟨p1, p7, p7a, -⟩ := HF.out w2 H2.out; have p7b := p7a (.cells #[.slice (some ⟨wr.heap.size, 0, none⟩) 3 3] 38); clear p7a)))
              all_goals
                rw [HPQ.out] at hrow
                have hrl : wr.heap.size < w2.heap.size := hrow.lt
                have hw1 : Below wr.heap.size wr (w2.alloc (.cells #[.slice (some ⟨wr.heap.size, 0, none⟩) 3 3] 38)) := H2.out.alloc H2.out.size _
                have hgp : (w2.alloc (.cells #[.slice (some ⟨wr.heap.size, 0, none⟩) 3 3] 38)).grownBy w5 K2.pv.ownBlock := by rw [HV.out]; exact hg5
                have hR : RdI .i64 (w2.alloc (.cells #[.slice (some ⟨wr.heap.size, 0, none⟩) 3 3] 38)) (some ⟨wr.heap.size, 0, none⟩) 3 3 pic0 := RdI.of_rowAt (hrow.alloc _) (show 3 ≤ maxLen by decide)
                have hpics := PicsAt.appended (w := wr) (vs1 := vs) (u := .slice (some ⟨wr.heap.size, 0, none⟩) 3 3) (cb := cb) (m := 7) (x := .slice za (k + 1) zc) (pics := List.replicate k pic0) (z := pic0) (fun b hb => H.out.ch.pl b hb) HOB.out (by rw [HLN.out]; simp) HO3.out hw1 hgp ho5 (by rw [HV.out]; exact hb5) (fun g hg => (ho5.blk hg).2)
                  ⟨some ⟨wr.heap.size, 0, none⟩, 3, rfl, hR, fun a ha => by
                    cases ha
                    exact ⟨.inr ⟨Nat.le_refl _, by simp; omega⟩, fun e => Nat.lt_irrefl _ (H.out.ch.pl _ (HOB.out _ e))⟩⟩
                  H.out.ch.d0.2.2.2 H.out.ch.row.lt
                have hkp : Keep (fun b => K2.pv.ownBlock = some b) wr w5 := (Keep.of_below hw1).grown hgp (fun k hk => .inl hk)
                have hfin := H.out.pics hkp (fun b hb => HOB.out b hb) hpics
                have hN : firstC 3 (List.replicate (k + 1) pic0) = { firstC 3 (List.replicate k pic0) with pics := List.replicate k pic0 ++ [pic0] } := by rw [List.replicate_succ']; rfl
                rw [← hN] at hfin
                have HFIN := Lib.hid hfin
                clear hrow hrl hw1 hgp hR hpics hkp hfin hN ho5 hg5 hb5
                go_wp2_with fail
                have hg := HG.out
                go_roundg (3 - (k + 1))
                case measure => omega
                case rel => exact ⟨k + 1, _, by omega, by go_num, HFIN.out⟩
            · have hk3 : k = 3 := by have := HG.out; omega
              subst hk3
              go_wp2_with fail
              go_ret
              exact ⟨cb, K2, rfl, H.out⟩
end
end Go.Proofs.YtajnfkmkombajacGreatDoor
namespace Go.Proofs.YtajnfkmkombajacGreatDoor
open Go.RowKit Go.Extern.Stop Go.Stop Go.Extern

theorem Tryz.isTypeOf (v : Value) (w : World) : (Extern.ReflectliteType.typeOf #[.iface 386 v]).run Tryz.prog w = .ok (.iface 307 (.agg #[.pointer (some ⟨26, 386, none⟩)])) w := by kernel_rfl
/-- the model's entry for reflectlite's Comparable, at this program -/
def compF (t : TypeId) : Sem Value := do Extern.Rtype.noPackHeld "Comparable" t; pure (.bool (← typeInfo t).comparable)
theorem Tryz.isComparable (w : World) : ((Extern.ReflectliteType.method compF) #[.agg #[.pointer (some ⟨26, 386, none⟩)]]).run Tryz.prog w = .ok (.bool true) w := by kernel_rfl
theorem Tryz.isMethodComparable (v : Value) (w : World) : (Go.method 526 307 v "Comparable").run Tryz.prog w = .ok (361, v) w := by kernel_rfl
theorem Tryz.isComp : (Tryz.prog.info? 386).map (·.comparable) = some true := by kernel_rfl
theorem Tryz.isSize : (Tryz.prog.info? 388).map (·.size) = some 1 := by kernel_rfl
theorem Tryz.noIsE (v : Value) (xT : TypeId) (w : World) : (Instr.typeAssert (.iface 386 v) xT 317 true).run Tryz.prog w = .ok (.tuple #[.nilIface, .bool false]) w := run_typeAssert_lacksB Tryz.underlying317 (by kernel_rfl) (by kernel_rfl) v xT w
theorem Tryz.noUnwrapE (v : Value) (xT : TypeId) (w : World) : (Instr.typeAssert (.iface 386 v) xT 314 true).run Tryz.prog w = .ok (.tuple #[.nilIface, .bool false]) w := run_typeAssert_lacksB Tryz.underlying314 (by kernel_rfl) (by kernel_rfl) v xT w
theorem Tryz.noUnwrapsE (v : Value) (xT : TypeId) (w : World) : (Instr.typeAssert (.iface 386 v) xT 315 true).run Tryz.prog w = .ok (.tuple #[.nilIface, .bool false]) w := run_typeAssert_lacksB Tryz.underlying315 (by kernel_rfl) (by kernel_rfl) v xT w
theorem Tryz.noIsF (v : Value) (xT : TypeId) (w : World) : (Instr.typeAssert (.iface 198 v) xT 317 true).run Tryz.prog w = .ok (.tuple #[.nilIface, .bool false]) w := run_typeAssert_lacksB Tryz.underlying317 (by kernel_rfl) (by kernel_rfl) v xT w
theorem Tryz.hasUnwrapF (v : Value) (xT : TypeId) (w : World) : (Instr.typeAssert (.iface 198 v) xT 314 true).run Tryz.prog w = .ok (.tuple #[.iface 198 v, .bool true]) w := run_typeAssert_hasB Tryz.underlying314 (by kernel_rfl) v xT w
theorem Tryz.methodUnwrap (v : Value) (w : World) : (Go.method 526 198 v "Unwrap").run Tryz.prog w = .ok (355, v) w := by kernel_rfl


set_option maxRecDepth 8000 in
theorem is_same (a : Addr) (w : World) :
    Calls Tryz.prog 170 #[.iface 386 (.pointer (some a)), .iface 386 (.pointer (some a))] w fun e w' => e = .returned (.bool true) ∧ w' = w := by
  obtain ⟨i, hi, hcmp⟩ := Option.map_eq_some_iff.1 Tryz.isComp
  obtain ⟨j, hj, hjs⟩ := Option.map_eq_some_iff.1 Tryz.isSize
  have h8 := @run_callFunc_extern Tryz.prog 205 _ Extern.ReflectliteType.typeOf Tryz.func205 (by kernel_rfl) (by kernel_rfl) (by kernel_rfl) (by kernel_rfl)
  have h32 := @run_callFunc_extern Tryz.prog 361 _ (Extern.ReflectliteType.method compF) Tryz.func361 (by kernel_rfl) (by kernel_rfl) (by kernel_rfl) (by kernel_rfl)
  have tT := Tryz.isTypeOf
  have cT := Tryz.isComparable
  have mR := Tryz.isMethodComparable
  have heq := run_eql_iface_ptr_same (P := Tryz.prog) w a Tryz.underlying51 Tryz.underlying386 hi hcmp hj
  go_enter Tryz.func170, Tryz.ntmps170
  go_wp2
  refine wp_loop_rounds 1 ?_
  rw [rounds_succ]
  go_wp2
  go_ret
  exact ⟨rfl, rfl⟩

set_option maxRecDepth 8000 in
/-- errors.Is(x, y): two errors of errors.New's make -/
theorem is_other (a b : Addr) (ca cb : Array Value) (ta tb : TypeId) (w : World) (hne : a ≠ b) (ha : w.heap[a.block]? = some (.cells ca ta (0, 0))) (hb : w.heap[b.block]? = some (.cells cb tb (0, 0))) :
    Calls Tryz.prog 170 #[.iface 386 (.pointer (some a)), .iface 386 (.pointer (some b))] w fun e w' => e = .returned (.bool false) ∧ w' = w := by
  obtain ⟨i, hi, hcmp⟩ := Option.map_eq_some_iff.1 Tryz.isComp
  obtain ⟨j, hj, hjs⟩ := Option.map_eq_some_iff.1 Tryz.isSize
  have h8 := @run_callFunc_extern Tryz.prog 205 _ Extern.ReflectliteType.typeOf Tryz.func205 (by kernel_rfl) (by kernel_rfl) (by kernel_rfl) (by kernel_rfl)
  have h32 := @run_callFunc_extern Tryz.prog 361 _ (Extern.ReflectliteType.method compF) Tryz.func361 (by kernel_rfl) (by kernel_rfl) (by kernel_rfl) (by kernel_rfl)
  have tT := Tryz.isTypeOf
  have cT := Tryz.isComparable
  have mR := Tryz.isMethodComparable
  have nE := Tryz.noIsE
  have uE := Tryz.noUnwrapE
  have vE := Tryz.noUnwrapsE
  have heq := run_eql_iface_ptr_other (P := Tryz.prog) w Tryz.underlying51 Tryz.underlying386 hi hcmp hj (by rw [hjs]; decide) hne ha hb
  go_enter Tryz.func170, Tryz.ntmps170
  go_wp2
  refine wp_loop_rounds 1 ?_
  rw [rounds_succ]
  go_wp2
  go_ret
  exact ⟨rfl, rfl⟩

set_option maxRecDepth 8000 in
/-- errors.Is(f, x), f a *api.Fault that bears x -/
theorem is_fault_same (pb po : Nat) (b : Addr) (w : World) (h1 : w.cell? ⟨pb, po + 1, none⟩ = some (.iface 386 (.pointer (some b)))) :
    Calls Tryz.prog 170 #[.iface 198 (.pointer (some ⟨pb, po, none⟩)), .iface 386 (.pointer (some b))] w fun e w' => e = .returned (.bool true) ∧ w' = w := by
  obtain ⟨i, hi, hcmp⟩ := Option.map_eq_some_iff.1 Tryz.isComp
  obtain ⟨j, hj, hjs⟩ := Option.map_eq_some_iff.1 Tryz.isSize
  have h8 := @run_callFunc_extern Tryz.prog 205 _ Extern.ReflectliteType.typeOf Tryz.func205 (by kernel_rfl) (by kernel_rfl) (by kernel_rfl) (by kernel_rfl)
  have h32 := @run_callFunc_extern Tryz.prog 361 _ (Extern.ReflectliteType.method compF) Tryz.func361 (by kernel_rfl) (by kernel_rfl) (by kernel_rfl) (by kernel_rfl)
  have tT := Tryz.isTypeOf
  have cT := Tryz.isComparable
  have mR := Tryz.isMethodComparable
  have nE := Tryz.noIsE
  have uE := Tryz.noUnwrapE
  have vE := Tryz.noUnwrapsE
  have nF := Tryz.noIsF
  have uF := Tryz.hasUnwrapF
  have mU := Tryz.methodUnwrap
  have heq := run_eql_iface_ptr_same (P := Tryz.prog) w b Tryz.underlying51 Tryz.underlying386 hi hcmp hj
  have hty := run_eql_iface_types (P := Tryz.prog) 198 386 (.pointer (some ⟨pb, po, none⟩)) (.pointer (some b)) Tryz.underlying51 (by decide) w
  go_enter Tryz.func170, Tryz.ntmps170
  go_wp2
  refine wp_loop_rounds 2 ?_
  rw [rounds_succ]
  go_wp2
  rw [rounds_succ]
  go_wp2
  go_ret
  exact ⟨rfl, rfl⟩

set_option maxRecDepth 8000 in
/-- errors.Is(f, x), f a *api.Fault that bears another error of errors.New's make -/
theorem is_fault_other (pb po : Nat) (b a : Addr) (ca cb : Array Value) (ta tb : TypeId) (w : World) (h1 : w.cell? ⟨pb, po + 1, none⟩ = some (.iface 386 (.pointer (some a)))) (hne : a ≠ b) (ha : w.heap[a.block]? = some (.cells ca ta (0, 0))) (hb : w.heap[b.block]? = some (.cells cb tb (0, 0))) :
    Calls Tryz.prog 170 #[.iface 198 (.pointer (some ⟨pb, po, none⟩)), .iface 386 (.pointer (some b))] w fun e w' => e = .returned (.bool false) ∧ w' = w := by
  obtain ⟨i, hi, hcmp⟩ := Option.map_eq_some_iff.1 Tryz.isComp
  obtain ⟨j, hj, hjs⟩ := Option.map_eq_some_iff.1 Tryz.isSize
  have h8 := @run_callFunc_extern Tryz.prog 205 _ Extern.ReflectliteType.typeOf Tryz.func205 (by kernel_rfl) (by kernel_rfl) (by kernel_rfl) (by kernel_rfl)
  have h32 := @run_callFunc_extern Tryz.prog 361 _ (Extern.ReflectliteType.method compF) Tryz.func361 (by kernel_rfl) (by kernel_rfl) (by kernel_rfl) (by kernel_rfl)
  have tT := Tryz.isTypeOf
  have cT := Tryz.isComparable
  have mR := Tryz.isMethodComparable
  have nE := Tryz.noIsE
  have uE := Tryz.noUnwrapE
  have vE := Tryz.noUnwrapsE
  have nF := Tryz.noIsF
  have uF := Tryz.hasUnwrapF
  have mU := Tryz.methodUnwrap
  have heq := run_eql_iface_ptr_other (P := Tryz.prog) w Tryz.underlying51 Tryz.underlying386 hi hcmp hj (by rw [hjs]; decide) hne ha hb
  have hty := run_eql_iface_types (P := Tryz.prog) 198 386 (.pointer (some ⟨pb, po, none⟩)) (.pointer (some b)) Tryz.underlying51 (by decide) w
  go_enter Tryz.func170, Tryz.ntmps170
  go_wp2
  refine wp_loop_rounds 2 ?_
  rw [rounds_succ]
  go_wp2
  rw [rounds_succ]
  go_wp2
  go_ret
  exact ⟨rfl, rfl⟩
end Go.Proofs.YtajnfkmkombajacGreatDoor
namespace Go.Proofs.YtajnfkmkombajacGreatDoor
open Go.RowKit Go.Extern.Stop Go.Stop Go.Extern

theorem Tryz.valueOfPP (t : Addr) (w : World) : (ReflectliteValue.unpack (.iface 211 (.pointer (some t)))).run Tryz.prog w
    = .ok (.agg #[.pointer (some ⟨26, 211, none⟩), .pointer (some ⟨w.heap.size, 0, none⟩), .int .u64 150]) (w.alloc (.cells #[.pointer (some t)] 211)) := by kernel_rfl
theorem Tryz.typePP (a : Addr) (w : World) : (ReflectliteValue.methodAny (ReflectliteValue.valueError "reflectlite.Value.Type" 0) (fun t _ _ _ => ReflectliteType.toType t) #[.agg #[.pointer (some ⟨26, 211, none⟩), .pointer (some a), .int .u64 150]]).run Tryz.prog w
    = .ok (.iface 307 (.agg #[.pointer (some ⟨26, 211, none⟩)])) w := by kernel_rfl
theorem Tryz.methodKind (h : Value) (w : World) : (Go.method 526 307 (.agg #[h]) "Kind").run Tryz.prog w = .ok (350, h) w := by kernel_rfl
theorem Tryz.kindPP (w : World) : ((ReflectliteType.abiMethod fun t => Functor.map (fun a : Nat => Value.int IntKind.u8 (a : Int)) (Rtype.kind t)) #[.pointer (some ⟨26, 211, none⟩)]).run Tryz.prog w = .ok (.int .u8 22) w := by kernel_rfl
theorem Tryz.kindP (w : World) : ((ReflectliteType.abiMethod fun t => Functor.map (fun a : Nat => Value.int IntKind.u8 (a : Int)) (Rtype.kind t)) #[.pointer (some ⟨26, 198, none⟩)]).run Tryz.prog w = .ok (.int .u8 22) w := by kernel_rfl

theorem rlm (z : Sem Value) (f : TypeId → Addr → Nat → Nat → Sem Value) (v : Value) :
    ReflectliteValue.method z f #[v] = (do match ← ReflectliteValue.parts v with | none => z | some (t, a, fl) => f t a fl (fl % 32)) := rfl
theorem Tryz.partsPP (a : Addr) (w : World) : (ReflectliteValue.parts (.agg #[.pointer (some ⟨26, 211, none⟩), .pointer (some a), .int .u64 150])).run Tryz.prog w = .ok (some (211, a, 150)) w := by kernel_rfl
theorem Tryz.isNilPP (a p : Addr) (W : World) (ha : W.cell? a = some (.pointer (some p))) :
    (ReflectliteValue.method (ReflectliteValue.valueError "reflectlite.Value.IsNil" 0) ReflectliteValue.isNil #[.agg #[.pointer (some ⟨26, 211, none⟩), .pointer (some a), .int .u64 150]]).run Tryz.prog W = .ok (.bool false) W := by
  rw [rlm]
  simp only [Sem.run_bind, Tryz.partsPP, Result.andThen]
  simp [ReflectliteValue.isNil, loadVar, isAgg, underlying, Tryz.underlying211, ha, Result.andThen]

theorem Tryz.methodElem (h : Value) (w : World) : (Go.method 526 307 (.agg #[h]) "Elem").run Tryz.prog w = .ok (362, .agg #[h]) w := by kernel_rfl
theorem Tryz.methodImplements (h : Value) (w : World) : (Go.method 526 307 (.agg #[h]) "Implements").run Tryz.prog w = .ok (363, .agg #[h]) w := by kernel_rfl
theorem Tryz.methodAssignableTo (h : Value) (w : World) : (Go.method 526 307 (.agg #[h]) "AssignableTo").run Tryz.prog w = .ok (360, .agg #[h]) w := by kernel_rfl
theorem Tryz.elemPP (w : World) : (ReflectliteType.method ReflectliteType.elem #[.agg #[.pointer (some ⟨26, 211, none⟩)]]).run Tryz.prog w = .ok (.iface 307 (.agg #[.pointer (some ⟨26, 198, none⟩)])) w := by kernel_rfl
theorem Tryz.implementsP (w : World) : (ReflectliteType.relation "Implements" ReflectliteType.implements_ #[.agg #[.pointer (some ⟨26, 198, none⟩)], .iface 307 (.agg #[.pointer (some ⟨26, 51, none⟩)])]).run Tryz.prog w = .ok (.bool true) w := by kernel_rfl
theorem Tryz.typeOfP (v : Value) (w : World) : (ReflectliteType.typeOf #[.iface 198 v]).run Tryz.prog w = .ok (.iface 307 (.agg #[.pointer (some ⟨26, 198, none⟩)])) w := by kernel_rfl
theorem Tryz.assignableP (w : World) : (ReflectliteType.relation "AssignableTo" ReflectliteType.assignableTo #[.agg #[.pointer (some ⟨26, 198, none⟩)], .iface 307 (.agg #[.pointer (some ⟨26, 198, none⟩)])]).run Tryz.prog w = .ok (.bool true) w := by kernel_rfl
theorem Tryz.assignableE (w : World) : (ReflectliteType.relation "AssignableTo" ReflectliteType.assignableTo #[.agg #[.pointer (some ⟨26, 386, none⟩)], .iface 307 (.agg #[.pointer (some ⟨26, 198, none⟩)])]).run Tryz.prog w = .ok (.bool false) w := by kernel_rfl
theorem Tryz.valueOfP (e : Addr) (w : World) : (ReflectliteValue.unpack (.iface 198 (.pointer (some e)))).run Tryz.prog w
    = .ok (.agg #[.pointer (some ⟨26, 198, none⟩), .pointer (some ⟨w.heap.size, 0, none⟩), .int .u64 150]) (w.alloc (.cells #[.pointer (some e)] 198)) := by kernel_rfl
theorem Tryz.elemOfPP (w : World) : (Rtype.elem? 211).run Tryz.prog w = .ok (some 198) w := by kernel_rfl
theorem Tryz.mkP (p : Addr) (w : World) : (ReflectliteValue.mk 198 p ReflectliteValue.flagAddr).run Tryz.prog w = .ok (.agg #[.pointer (some ⟨26, 198, none⟩), .pointer (some p), .int .u64 406]) w := by kernel_rfl
theorem Tryz.elemVPP (a p : Addr) (W : World) (ha : W.cell? a = some (.pointer (some p))) :
    (ReflectliteValue.method (ReflectliteValue.valueError "reflectlite.Value.Elem" 0) ReflectliteValue.elem #[.agg #[.pointer (some ⟨26, 211, none⟩), .pointer (some a), .int .u64 150]]).run Tryz.prog W
      = .ok (.agg #[.pointer (some ⟨26, 198, none⟩), .pointer (some p), .int .u64 406]) W := by
  rw [rlm]
  simp only [Sem.run_bind, Tryz.partsPP, Result.andThen]
  simp [ReflectliteValue.elem, loadVar, isAgg, underlying, Tryz.underlying211, ha, Result.andThen, Tryz.elemOfPP, Tryz.mkP]
theorem rls (v x : Value) : ReflectliteValue.set #[v, x] = (do
    let (some (dst, a, fl), some (src, b, _)) := (← ReflectliteValue.parts v, ← ReflectliteValue.parts x)
      | unsupported (.noEntry "extern/(internal/reflectlite.Value).Set.zeroValue")
    if fl / ReflectliteValue.flagAddr % 2 == 0 then unsupported (.noEntry "extern/(internal/reflectlite.Value).Set.unaddressable")
    let val ← loadVar src b
    if ← Rtype.directlyAssignable dst src then storeVar dst a val
    else if ← Rtype.implements dst src then
      if (← Rtype.kind src) == 20 then
        match val with
        | .nilIface => unsupported (.noEntry "extern/reflectlite: a nil value of one interface type handed on as a value of another")
        | _ => storeVar dst a val
      else storeVar dst a (.iface src val)
    else panicString ("reflectlite.Set: value of type " ++ (← Rtype.spelt src) ++ " is not assignable to type " ++ (← Rtype.spelt dst))
    pure (.tuple #[])) := rfl
theorem Tryz.partsPa (a : Addr) (w : World) : (ReflectliteValue.parts (.agg #[.pointer (some ⟨26, 198, none⟩), .pointer (some a), .int .u64 406])).run Tryz.prog w = .ok (some (198, a, 406)) w := by kernel_rfl
theorem Tryz.partsP (a : Addr) (w : World) : (ReflectliteValue.parts (.agg #[.pointer (some ⟨26, 198, none⟩), .pointer (some a), .int .u64 150])).run Tryz.prog w = .ok (some (198, a, 150)) w := by kernel_rfl
theorem Tryz.directP (w : World) : (Rtype.directlyAssignable 198 198).run Tryz.prog w = .ok true w := by kernel_rfl
theorem Tryz.setP (ta b e : Addr) (old : Value) (W : World) (hb : W.cell? b = some (.pointer (some e))) (ht : W.cell? ta = some old) (hf : W.frozen? ta = false) :
    (ReflectliteValue.set #[.agg #[.pointer (some ⟨26, 198, none⟩), .pointer (some ta), .int .u64 406], .agg #[.pointer (some ⟨26, 198, none⟩), .pointer (some b), .int .u64 150]]).run Tryz.prog W
      = .ok (.tuple #[]) (W.setCell ta (.pointer (some e))) := by
  rw [rls]
  simp only [Sem.run_bind, Tryz.partsPa, Tryz.partsP, Result.andThen]
  simp [ReflectliteValue.flagAddr, loadVar, isAgg, underlying, Tryz.underlying198, hb, Result.andThen, Tryz.directP, storeVar, Value.cells, storeCells, Addr.add]
  rw [run_store Tryz.prog W ta _ _ (by rfl)]
  simp [ht, hf]
theorem Tryz.noAsE (v : Value) (xT : TypeId) (w : World) : (Instr.typeAssert (.iface 386 v) xT 311 true).run Tryz.prog w = .ok (.tuple #[.nilIface, .bool false]) w := run_typeAssert_lacksB Tryz.underlying311 (by kernel_rfl) (by kernel_rfl) v xT w

/-- the variable errors.errorType holds what it was laid with -/
def ErrType (w : World) : Prop := w.cell? ⟨10, 0, none⟩ = some (.iface 307 (.agg #[.pointer (some ⟨26, 51, none⟩)]))
theorem ErrType.below {w w' : World} (h : ErrType w) (hb : Below w.heap.size w w') : ErrType w' := by
  unfold ErrType at h ⊢
  rw [hb.cell (p := ⟨10, 0, none⟩) (World.block_lt_of_cell? w _ h)]; exact h

set_option maxHeartbeats 4000000 in
set_option maxRecDepth 8000 in
/-- errors.As(f, &t), f a *api.Fault -/
theorem as_hit (e t : Addr) (old : Value) (w : World) (hg : ErrType w) (ht0 : w.cell? t = some old) (hf0 : w.frozen? t = false) :
    Calls Tryz.prog 169 #[.iface 198 (.pointer (some e)), .iface 211 (.pointer (some t))] w fun ev w' => ev = .returned (.bool true) ∧ Keep (· = t.block) w w' ∧ w'.cell? t = some (.pointer (some e)) := by
  have h6 := @run_callFunc_extern Tryz.prog 201 _ (fun args => ReflectliteValue.unpack (args.getD 0 (.tuple #[]))) Tryz.func201 (by kernel_rfl) (by kernel_rfl) (by kernel_rfl) (by kernel_rfl)
  have h7 := @run_callFunc_extern Tryz.prog 202 _ (ReflectliteValue.methodAny (ReflectliteValue.valueError "reflectlite.Value.Type" 0) (fun t _ _ _ => ReflectliteType.toType t)) Tryz.func202 (by kernel_rfl) (by kernel_rfl) (by kernel_rfl) (by kernel_rfl)
  have h8 := @run_callFunc_extern Tryz.prog 203 _ (ReflectliteValue.method (ReflectliteValue.valueError "reflectlite.Value.IsNil" 0) ReflectliteValue.isNil) Tryz.func203 (by kernel_rfl) (by kernel_rfl) (by kernel_rfl) (by kernel_rfl)
  have h27 := @run_callFunc_extern Tryz.prog 350 _ (ReflectliteType.abiMethod fun t => do pure (.int .u8 (← Rtype.kind t))) Tryz.func350 (by kernel_rfl) (by kernel_rfl) (by kernel_rfl) (by kernel_rfl)
  have h37 := @run_callFunc_extern Tryz.prog 362 _ (ReflectliteType.method ReflectliteType.elem) Tryz.func362 (by kernel_rfl) (by kernel_rfl) (by kernel_rfl) (by kernel_rfl)
  have h38 := @run_callFunc_extern Tryz.prog 363 _ (ReflectliteType.relation "Implements" ReflectliteType.implements_) Tryz.func363 (by kernel_rfl) (by kernel_rfl) (by kernel_rfl) (by kernel_rfl)
  have h10 := @run_callFunc_extern Tryz.prog 205 _ ReflectliteType.typeOf Tryz.func205 (by kernel_rfl) (by kernel_rfl) (by kernel_rfl) (by kernel_rfl)
  have h35 := @run_callFunc_extern Tryz.prog 360 _ (ReflectliteType.relation "AssignableTo" ReflectliteType.assignableTo) Tryz.func360 (by kernel_rfl) (by kernel_rfl) (by kernel_rfl) (by kernel_rfl)
  have h11 := @run_callFunc_extern Tryz.prog 260 _ (ReflectliteValue.method (ReflectliteValue.valueError "reflectlite.Value.Elem" 0) ReflectliteValue.elem) Tryz.func260 (by kernel_rfl) (by kernel_rfl) (by kernel_rfl) (by kernel_rfl)
  have h12 := @run_callFunc_extern Tryz.prog 261 _ ReflectliteValue.set Tryz.func261 (by kernel_rfl) (by kernel_rfl) (by kernel_rfl) (by kernel_rfl)
  have tO := Tryz.typeOfP
  have mA := Tryz.methodAssignableTo
  have a25 := Tryz.assignableP
  have v25 := Tryz.valueOfP
  have f6 := Tryz.valueOfPP
  have f7 := Tryz.typePP
  have mK := Tryz.methodKind
  have mE := Tryz.methodElem
  have mI := Tryz.methodImplements
  have k27 := Tryz.kindPP
  have k25 := Tryz.kindP
  have e27 := Tryz.elemPP
  have i25 := Tryz.implementsP
  unfold ErrType at hg
  have hlt := World.block_lt_of_cell? w _ hg
  have hgn : 10 < w.heap.size := hlt
  clear hlt
  have n8 := Tryz.isNilPP ⟨w.heap.size, 0, none⟩ t ((w.alloc (.cells #[.pointer (some t)] 211)).alloc (.cells #[.pointer (some ⟨26, 211, none⟩), .pointer (some ⟨w.heap.size, 0, none⟩), .int .u64 150] 258)) (by simp)
  have hg2 : ((w.alloc (.cells #[.pointer (some t)] 211)).alloc (.cells #[.pointer (some ⟨26, 211, none⟩), .pointer (some ⟨w.heap.size, 0, none⟩), .int .u64 150] 258)).cell? ⟨10, 0, none⟩ = some (.iface 307 (.agg #[.pointer (some ⟨26, 51, none⟩)])) := by
    rw [World.cell?_alloc_lt _ _ ⟨10, 0, none⟩ (by simp; omega), World.cell?_alloc_lt _ _ ⟨10, 0, none⟩ hgn]; exact hg
  have htl : t.block < w.heap.size := World.block_lt_of_cell? w _ ht0
  have el := Tryz.elemVPP ⟨w.heap.size, 0, none⟩ t (((w.alloc (.cells #[.pointer (some t)] 211)).alloc (.cells #[.pointer (some ⟨26, 211, none⟩), .pointer (some ⟨w.heap.size, 0, none⟩), .int .u64 150] 258)).alloc (.cells #[.pointer (some ⟨26, 211, none⟩), .pointer (some ⟨w.heap.size, 0, none⟩), .int .u64 150] 258)) (by rw [World.cell?_alloc_lt _ _ ⟨w.heap.size, 0, none⟩ (by simp; omega)]; simp)
  have ht4 : ((((w.alloc (.cells #[.pointer (some t)] 211)).alloc (.cells #[.pointer (some ⟨26, 211, none⟩), .pointer (some ⟨w.heap.size, 0, none⟩), .int .u64 150] 258)).alloc (.cells #[.pointer (some ⟨26, 211, none⟩), .pointer (some ⟨w.heap.size, 0, none⟩), .int .u64 150] 258)).alloc (.cells #[.pointer (some e)] 198)).cell? t = some old := by
    rw [World.cell?_alloc_lt _ _ t (by simp; omega), World.cell?_alloc_lt _ _ t (by simp; omega), World.cell?_alloc_lt _ _ t (by simp; omega), World.cell?_alloc_lt _ _ t htl]; exact ht0
  have st := Tryz.setP t ⟨w.heap.size + 1 + 1 + 1, 0, none⟩ e old ((((w.alloc (.cells #[.pointer (some t)] 211)).alloc (.cells #[.pointer (some ⟨26, 211, none⟩), .pointer (some ⟨w.heap.size, 0, none⟩), .int .u64 150] 258)).alloc (.cells #[.pointer (some ⟨26, 211, none⟩), .pointer (some ⟨w.heap.size, 0, none⟩), .int .u64 150] 258)).alloc (.cells #[.pointer (some e)] 198))
    (by rw [World.cell?_alloc_at _ _ _ _ (by simp)]; rfl) ht4
    (by rw [World.frozen?_alloc_old _ _ t (by simp; omega), World.frozen?_alloc_old _ _ t (by simp; omega), World.frozen?_alloc_old _ _ t (by simp; omega), World.frozen?_alloc_old _ _ t (Nat.ne_of_lt htl)]; exact hf0)
  have HT4 := Lib.hid ht4; clear ht4
  go_enter Tryz.func169, Tryz.ntmps169
  go_wp2
  refine wp_loop_rounds 1 ?_
  rw [rounds_succ]
  go_wp2
  go_ret
  exact ⟨rfl, Keep.setCell (F := fun x => x = t.block) (((((Keep.refl _ _).alloc _).alloc _).alloc _).alloc _) (.inl rfl) _, World.cell?_setCell_same _ _ _ HT4.out⟩

set_option maxHeartbeats 4000000 in
set_option maxRecDepth 8000 in
/-- errors.As(x, &t), x of errors.New's make -/
theorem as_miss (a : Value) (t : Addr) (w : World) (hg : ErrType w) :
    Calls Tryz.prog 169 #[.iface 386 a, .iface 211 (.pointer (some t))] w fun ev w' => ev = .returned (.bool false) ∧ Below w.heap.size w w' := by
  have h6 := @run_callFunc_extern Tryz.prog 201 _ (fun args => ReflectliteValue.unpack (args.getD 0 (.tuple #[]))) Tryz.func201 (by kernel_rfl) (by kernel_rfl) (by kernel_rfl) (by kernel_rfl)
  have h7 := @run_callFunc_extern Tryz.prog 202 _ (ReflectliteValue.methodAny (ReflectliteValue.valueError "reflectlite.Value.Type" 0) (fun t _ _ _ => ReflectliteType.toType t)) Tryz.func202 (by kernel_rfl) (by kernel_rfl) (by kernel_rfl) (by kernel_rfl)
  have h8 := @run_callFunc_extern Tryz.prog 203 _ (ReflectliteValue.method (ReflectliteValue.valueError "reflectlite.Value.IsNil" 0) ReflectliteValue.isNil) Tryz.func203 (by kernel_rfl) (by kernel_rfl) (by kernel_rfl) (by kernel_rfl)
  have h27 := @run_callFunc_extern Tryz.prog 350 _ (ReflectliteType.abiMethod fun t => do pure (.int .u8 (← Rtype.kind t))) Tryz.func350 (by kernel_rfl) (by kernel_rfl) (by kernel_rfl) (by kernel_rfl)
  have h37 := @run_callFunc_extern Tryz.prog 362 _ (ReflectliteType.method ReflectliteType.elem) Tryz.func362 (by kernel_rfl) (by kernel_rfl) (by kernel_rfl) (by kernel_rfl)
  have h38 := @run_callFunc_extern Tryz.prog 363 _ (ReflectliteType.relation "Implements" ReflectliteType.implements_) Tryz.func363 (by kernel_rfl) (by kernel_rfl) (by kernel_rfl) (by kernel_rfl)
  have h10 := @run_callFunc_extern Tryz.prog 205 _ ReflectliteType.typeOf Tryz.func205 (by kernel_rfl) (by kernel_rfl) (by kernel_rfl) (by kernel_rfl)
  have h35 := @run_callFunc_extern Tryz.prog 360 _ (ReflectliteType.relation "AssignableTo" ReflectliteType.assignableTo) Tryz.func360 (by kernel_rfl) (by kernel_rfl) (by kernel_rfl) (by kernel_rfl)
  have tO := Tryz.isTypeOf
  have mA := Tryz.methodAssignableTo
  have a25 := Tryz.assignableE
  have f6 := Tryz.valueOfPP
  have f7 := Tryz.typePP
  have mK := Tryz.methodKind
  have mE := Tryz.methodElem
  have mI := Tryz.methodImplements
  have k27 := Tryz.kindPP
  have k25 := Tryz.kindP
  have e27 := Tryz.elemPP
  have i25 := Tryz.implementsP
  have nA := Tryz.noAsE
  have uE := Tryz.noUnwrapE
  have vE := Tryz.noUnwrapsE
  unfold ErrType at hg
  have hlt := World.block_lt_of_cell? w _ hg
  have hgn : 10 < w.heap.size := hlt
  clear hlt
  have n8 := Tryz.isNilPP ⟨w.heap.size, 0, none⟩ t ((w.alloc (.cells #[.pointer (some t)] 211)).alloc (.cells #[.pointer (some ⟨26, 211, none⟩), .pointer (some ⟨w.heap.size, 0, none⟩), .int .u64 150] 258)) (by simp)
  have hg2 : ((w.alloc (.cells #[.pointer (some t)] 211)).alloc (.cells #[.pointer (some ⟨26, 211, none⟩), .pointer (some ⟨w.heap.size, 0, none⟩), .int .u64 150] 258)).cell? ⟨10, 0, none⟩ = some (.iface 307 (.agg #[.pointer (some ⟨26, 51, none⟩)])) := by
    rw [World.cell?_alloc_lt _ _ ⟨10, 0, none⟩ (by simp; omega), World.cell?_alloc_lt _ _ ⟨10, 0, none⟩ hgn]; exact hg
  go_enter Tryz.func169, Tryz.ntmps169
  go_wp2
  refine wp_loop_rounds 1 ?_
  rw [rounds_succ]
  go_wp2
  go_ret
  exact ⟨rfl, (((Below.refl _ _).alloc (Nat.le_refl _) _).alloc (by simp) _).alloc (by simp; omega) _⟩
end Go.Proofs.YtajnfkmkombajacGreatDoor
