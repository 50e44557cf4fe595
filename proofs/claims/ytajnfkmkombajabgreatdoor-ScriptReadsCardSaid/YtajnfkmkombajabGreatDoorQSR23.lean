/-
  A new chain.
  From a row's cell on listed sentinels (all ten, and errors.errorType) to what the walks ask.
  A chain in memory that is new; a block by its turn; the closed fact of the chain's laws.
  Plain: what an act on a chain answers and leaves; sums are right behind it.
  Plain: no code is more than ten. No program in sight.
  Plain: what one number of a play answers and leaves; what a script does.
-/
import Derived.Test.YtajnfkmkombajabGreatDoorQSR22
import Derived.Deep.RegionLaw
import Derived.Test.YtajnfkmkombajabGreatDoorQSR02
import Derived.Test.YtajnfkmkombajabGreatDoorQSR01
import Derived.LaidSub
import Derived.Test.YtajnfkmkombajabGreatDoorQSR06
set_option linter.unusedVariables false
set_option linter.unusedSimpArgs false
set_option linter.unusedVariables false
namespace Go.Proofs.YtajnfkmkombajabGreatDoor
open Go.RowKit Go.Maps

def noF : Nat → Prop := fun _ => False
theorem noFE (S : List Nat) : ∀ c ∈ S, ¬ noF (gE c) := fun _ _ h => h
/-- a purse, stakes and a court that are new, and the chain's own block -/
theorem chain_begin {w w1 w2 w3 : World} {sd : Nat} (b1 : Below w.heap.size w w1) (hp : PurseAt w.heap.size PS.new w1) (b2 : Below w1.heap.size w1 w2) (hs : StakesAt w1.heap.size (fun k => k = w1.heap.size) 0 SS.new w2)
    (b3 : Below w2.heap.size w2 w3) (hk : CourtAt (w2.heap.size + 1) (fun b => b = w2.heap.size ∨ b = w2.heap.size + 1) 0 KS.new w3) :
    ChGo w noF w3.heap.size ⟨w.heap.size, w1.heap.size, w2.heap.size + 1, fun k => k = w1.heap.size, fun b => b = w2.heap.size ∨ b = w2.heap.size + 1, noF, .slice none 0 0⟩ 0 sd ⟨PS.new, SS.new, KS.new, 0, 0, 0, []⟩
      (w3.alloc (.cells #[.pointer (some ⟨w.heap.size, 0, none⟩), .pointer (some ⟨w1.heap.size, 0, none⟩), .pointer (some ⟨w2.heap.size + 1, 0, none⟩), .int .u64 sd, .int .i64 0, .int .i64 0, .int .i64 0, .slice none 0 0] 54)) := by
  have p1 := hp.lt
  have p2 : w1.heap.size < w2.heap.size := hs.lt rfl
  have p3 : w2.heap.size + 1 < w3.heap.size := hk.lt _ (.inr rfl)
  have ba : Below w3.heap.size w3 (w3.alloc (.cells #[.pointer (some ⟨w.heap.size, 0, none⟩), .pointer (some ⟨w1.heap.size, 0, none⟩), .pointer (some ⟨w2.heap.size + 1, 0, none⟩), .int .u64 sd, .int .i64 0, .int .i64 0, .int .i64 0, .slice none 0 0] 54)) := (Below.refl _ _).alloc (Nat.le_refl _) _
  have hb2 : Below w1.heap.size w1 w3 := btrans b2 b3
  refine ⟨Keep.of_below (btrans (btrans b1 hb2) ba), ⟨RowAt.new w3 54 _, ?_, ?_, hk.below ba, ⟨⟨[], OwnSl.nil _ _ _, rfl, fun i v z hv => by simp at hv⟩, fun g hg => by cases hg⟩, fun b hb => hb.elim, ⟨?_, ?_, ?_, id⟩, ⟨?_, ?_, id⟩, fun b hb => ⟨?_, id⟩, fun b hb => id⟩, fun b hb => .inr ?_, fun b hb => hb.elim⟩
  · exact (hp.keep (F := noF) (Keep.of_below hb2) id).keep (F := noF) (Keep.of_below ba) id
  · exact (hs.below b3).below ba
  · show w3.heap.size ≠ w.heap.size; omega
  · show ¬ (w3.heap.size = w1.heap.size); omega
  · show ¬ (w3.heap.size = w2.heap.size ∨ w3.heap.size = w2.heap.size + 1); omega
  · show ¬ (w.heap.size = w1.heap.size); omega
  · show ¬ (w.heap.size = w2.heap.size ∨ w.heap.size = w2.heap.size + 1); omega
  · have : b = w1.heap.size := hb
    show ¬ (b = w2.heap.size ∨ b = w2.heap.size + 1); omega
  · have hsz := b1.size
    have e : (w3.alloc (.cells #[.pointer (some ⟨w.heap.size, 0, none⟩), .pointer (some ⟨w1.heap.size, 0, none⟩), .pointer (some ⟨w2.heap.size + 1, 0, none⟩), .int .u64 sd, .int .i64 0, .int .i64 0, .int .i64 0, .slice none 0 0] 54)).heap.size = w3.heap.size + 1 := by simp
    rw [e]
    rcases hb with hb | hb | hb | hb | hb
    · omega
    · have : b = w.heap.size := hb
      omega
    · have : b = w1.heap.size := hb
      omega
    · have : b = w2.heap.size ∨ b = w2.heap.size + 1 := hb
      omega
    · exact hb.elim

theorem first_six : PS.first 6 = firstP 0 := rfl
theorem first_none : SS.new = firstS 0 := rfl
theorem firstC_of (k : Nat) (pics : List (List Int)) : firstC k pics = ⟨firstP k, firstS k, KS.new, 0, 0, 0, pics⟩ := rfl

section
variable (A : Nat → Addr) (S : List Nat) (sd : Nat) (w : World)
set_option maxRecDepth 8000 in
set_option maxHeartbeats 2000000 in
theorem chain_New (hE : Errs A S w) (h2 : 2 ∈ S) (h4 : 4 ∈ S) (h5 : 5 ∈ S) (h6 : 6 ∈ S) (h7 : 7 ∈ S) (h8 : 8 ∈ S) :
    Calls Tryz.prog 10 #[.int .u64 sd] w fun e w' => ∃ cb K, e = .returned (.pointer (some ⟨cb, 0, none⟩)) ∧ ChGo w noF cb K 3 sd CS.new w' := by
  have HE := Lib.hid hE; clear hE
  go_enter Tryz.func10, Tryz.ntmps10
  go_wp2_with fail
  refine (purse_New _).mono ?_
  rintro e w1 ⟨rfl, b1, hp⟩
  go_wp2_with fail
  refine (stake_New _).mono ?_
  rintro e w2 ⟨rfl, b2, hs⟩
  go_wp2_with fail
  refine (court_New _).mono ?_
  rintro e w3 ⟨rfl, b3, hk⟩
  have H0 := Lib.hid (chain_begin (sd := sd) b1 hp b2 hs b3 hk)
  clear b1 hp b2 hs b3 hk
  generalize hK0 : (⟨w.heap.size, w1.heap.size, w2.heap.size + 1, fun k => k = w1.heap.size, fun b => b = w2.heap.size ∨ b = w2.heap.size + 1, noF, .slice none 0 0⟩ : ChL) = K0 at H0
  clear hK0
  go_wp2_with fail
  generalize hcb : w3.heap.size = cb at *
  clear hcb
  go_loopg [12] 6 (fun g c wr => ∃ k : Nat, g + k = 6 ∧ c = .int .i64 k ∧ ChGo w noF cb K0 0 sd ⟨PS.first k, SS.new, KS.new, 0, 0, 0, []⟩ wr)
  case atStart => exact ⟨0, rfl, rfl, H0.out⟩
  case round =>
    clear H0
    obtain ⟨k, hg, rfl, hh⟩ := hrel
    have HG := Lib.hid hg; have H := Lib.hid hh; clear hg hh
    by_cases hk : k < 6
    · have c0 := H.out.c0
      have HST := Lib.hid (PS.first_step hk)
      go_wp2_with fail
      refine (purse_Mint A S K0.pb (PS.first k) k 10000 _ (H.out.errs HE.out (noFE S)) h2 H.out.ch.purse).mono ?_
      rintro e wz ⟨rfl, ka⟩
      rw [HST.out] at ka ⊢
      have H1 := Lib.hid (H.out.purse ka); clear ka
      go_wp2_with fail
      have hg := HG.out
      go_roundg (6 - (k + 1))
      case measure => omega
      case rel => exact ⟨k + 1, by omega, by go_num, H1.out⟩
    · have hk6 : k = 6 := by have := HG.out; omega
      subst hk6
      have H0 := Lib.hid (show ChGo w noF cb K0 0 sd (firstC 0 []) wr from H.out)
      clear H HG hk
      go_wp2_with fail
      rename World => wa
      go_loopg [22] 3 (fun g c wr => ∃ (k : Nat) (K' : ChL), g + k = 3 ∧ c = .int .i64 k ∧ ChGo w noF cb K' k sd (firstC k []) wr)
      case atStart => exact ⟨0, K0, rfl, rfl, H0.out⟩
      case round =>
        clear H0
        obtain ⟨k, K1, hg, rfl, hh⟩ := hrel
        have HG := Lib.hid hg; have H := Lib.hid hh; clear hg hh
        by_cases hk : k < 3
        · have c1 := H.out.c1
          obtain ⟨s, e1, e2⟩ := first_reg hk
          have HE1 := Lib.hid e1; have HE2 := Lib.hid (e2 []); clear e1 e2
          go_wp2_with fail
          refine (stake_Register A S K1.sb K1.Fs k (firstS k) k _ H.out.ch.st (H.out.errs HE.out (noFE S)) h2 h5).mono ?_
          rintro e wz ⟨rfl, ka⟩
          rw [HE1.out] at ka ⊢
          have H1 := Lib.hid (show ChGo w noF cb (K1.withS _ wz) k sd ⟨firstP k, s, KS.new, 0, 0, 0, []⟩ wz from H.out.stakes (Nat.le_refl k) ka); clear ka c1
          go_wp2_with fail
          refine (chain_Stake A S w noF cb _ k sd _ wz k k 1000 H1.out HE.out (noFE S) h2 h4 h6 h7 h8 (by unfold maxLen; omega)).mono ?_
          rintro e wy ⟨rfl, K3, ka⟩
          rw [HE2.out] at ka ⊢
          have H2 := Lib.hid ka; clear ka
          go_wp2_with fail
          have hg := HG.out
          go_roundg (3 - (k + 1))
          case measure => omega
          case rel => exact ⟨k + 1, K3, by omega, by go_num, H2.out⟩
        · have hk3 : k = 3 := by have := HG.out; omega
          subst hk3
          have H0 := Lib.hid (show ChGo w noF cb K1 3 sd (firstC 3 (List.replicate 0 pic0)) wr from H.out)
          clear H HG hk
          go_wp2_with fail
          go_loopg [36] 3 (fun g c wr => ∃ (k : Nat) (K' : ChL), g + k = 3 ∧ c = .int .i64 k ∧ ChGo w noF cb K' 3 sd (firstC 3 (List.replicate k pic0)) wr)
          case atStart => exact ⟨0, K1, rfl, rfl, H0.out⟩
          case round =>
            clear H0
            obtain ⟨k, K2, hg, rfl, hh⟩ := hrel
            have HG := Lib.hid hg; have H := Lib.hid hh; clear hg hh
            by_cases hk : k < 3
            · obtain ⟨vs, o1, o2, o3⟩ := H.out.ch.pics.own
              have oblk := H.out.ch.pics.blk
              obtain ⟨i0, hi, hz0, hz1, hz2⟩ := info_parts infoSl
              obtain ⟨va, vc, hv, hvc, hvm⟩ := o1.shape
              have hlen : vs.length = k := by rw [o2]; show (List.replicate k pic0).length = k; simp
              have HPI := Lib.hid (fun wx (hb : Below wr.heap.size wr wx) => right_Picture K2.sb 3 K2.Fs (firstC 3 (List.replicate k pic0)).s wx (H.out.below hb).ch.st)
              have HPQ := Lib.hid (first_picture (List.replicate k pic0))
              have HF := Lib.hid (show ∀ wx, Below wr.heap.size wr wx → wx.cell? ⟨cb, 1, none⟩ = some (.pointer (some ⟨K2.sb, 0, none⟩)) ∧ wx.cell? ⟨cb, 7, none⟩ = some (.slice va k vc) ∧ (∀ ob, (wx.alloc ob).cell? ⟨cb, 7, none⟩ = some (.slice va k vc)) ∧ OwnSl 0 58 (.slice va k vc) vs wx from fun wx hb => by
                have h1 := H.out.below hb
                have hr := h1.ch.row
                have e : K2.pv = .slice va k vc := by rw [hv, hlen]
                refine ⟨h1.c1, by rw [← e]; exact h1.c7, fun ob => by rw [← e]; exact (hr.alloc ob).cell 7, ?_⟩
                rw [← e]
                exact o1.keep (Keep.of_below (F := fun _ => False) hb) (fun _ _ => id))
              have HO3 := Lib.hid o3; have HOB := Lib.hid oblk
              have HV := Lib.hid (show K2.pv = .slice va k vc by rw [hv, hlen])
              have HLN := Lib.hid hlen
              obtain ⟨f1, f7, f7a, -⟩ := HF.out wr (Below.refl _ _)
              have hcap : vc ≤ maxLen := hvm
              have HS := Lib.hid (show ∀ (w2 : World) (ob : Obj) (w5 : World), Below wr.heap.size wr w2 → (w2.alloc ob).grownBy w5 (Value.slice va k vc).ownBlock → w5.cell? ⟨cb, 7, none⟩ = some (.slice va k vc) ∧ w5.frozen? ⟨cb, 7, none⟩ = false from fun w2 ob w5 hb hg => by
                have h1 := H.out.below hb
                have hr : RowAt cb 54 (chainVs K2 sd (firstC 3 (List.replicate k pic0))) w5 := h1.ch.row.keep (((Keep.refl (fun b => K2.pv.ownBlock = some b) w2).alloc ob).grown hg (fun j hj => .inl (by rw [HV.out]; exact hj))) (fun e => H.out.ch.d0.2.2.2 (HOB.out _ e))
                have e : K2.pv = .slice va k vc := HV.out
                refine ⟨?_, hr.frozen 7⟩
                rw [← e]; exact hr.cell 7)
              clear o1 o2 o3 oblk hv hvc hlen f7a hcap hvm
              go_wp2_with fail
              go_region_law ((first
                | (refine step_append_sl rfl (.tmp 42) (.tmp 48) 52 rfl 0 58 i0 (.slice none 0 0) 24 Tryz.underlying52 hi hz0 hz1 hz2 rfl (.slice va k vc) vs rfl (OwnSl.alloc (HF.out w2 H2.out).2.2.2 _) ⟨_, 0, none⟩ (.slice (some ⟨wr.heap.size, 0, none⟩) 3 3) rfl (World.news_of_block (heap_alloc_new _ _)) (by intro u hu; simp at hu; subst hu; rfl) (by rw [HLN.out]; unfold maxLen; omega) (by rw [HLN.out]; omega) (Nat.zero_le _) ?_; intro v2 w5 ho5 hg5 hb5; obtain ⟨za, zc, hv2, -, -⟩ := ho5.shape; rw [List.length_append, HLN.out] at hv2; simp only [List.length_cons, List.length_nil, Nat.zero_add] at hv2; subst hv2; obtain ⟨m7, mf7⟩ := HS.out w2 _ w5 H2.out hg5)
                | (go_simp; go_at_call 20; refine (HPI.out _ ((Below.refl _ _).drewN 1)).mono ?_; rintro e w2 ⟨rfl, hb2, hrow⟩; have H2 := Lib.hid (btrans ((Below.refl _ _).drewN 1) hb2); obtain ⟨p1, p7, p7a, -⟩ := HF.out w2 H2.out; have p7b := p7a (.cells #[.slice (some ⟨wr.heap.size, 0, none⟩) 3 3] 58); clear p7a)))
              all_goals
                rw [HPQ.out] at hrow
                have hrl : wr.heap.size < w2.heap.size := hrow.lt
                have hw1 : Below wr.heap.size wr (w2.alloc (.cells #[.slice (some ⟨wr.heap.size, 0, none⟩) 3 3] 58)) := H2.out.alloc H2.out.size _
                have hgp : (w2.alloc (.cells #[.slice (some ⟨wr.heap.size, 0, none⟩) 3 3] 58)).grownBy w5 K2.pv.ownBlock := by rw [HV.out]; exact hg5
                have hR : RdI .i64 (w2.alloc (.cells #[.slice (some ⟨wr.heap.size, 0, none⟩) 3 3] 58)) (some ⟨wr.heap.size, 0, none⟩) 3 3 pic0 := RdI.of_rowAt (hrow.alloc _) (show 3 ≤ maxLen by decide)
                have hpics := PicsAt.appended (w := wr) (vs1 := vs) (u := .slice (some ⟨wr.heap.size, 0, none⟩) 3 3) (cb := cb) (m := 7) (x := .slice za (k + 1) zc) (pics := List.replicate k pic0) (z := pic0) (fun b hb => H.out.ch.pl b hb) HOB.out (by rw [HLN.out]; simp) HO3.out hw1 hgp ho5 (by rw [HV.out]; exact hb5) (fun g hg => (ho5.blk hg).2)
                  ⟨some ⟨wr.heap.size, 0, none⟩, 3, rfl, hR, fun a ha => by
                    cases ha
                    exact ⟨.inr ⟨Nat.le_refl _, by simp; omega⟩, fun e => Nat.lt_irrefl _ (H.out.ch.pl _ (HOB.out _ e))⟩⟩
                  H.out.ch.d0.2.2.2 H.out.ch.row.lt
                have hkp : Keep (fun b => K2.pv.ownBlock = some b) wr w5 := (Keep.of_below hw1).grown hgp (fun k hk => .inl hk)
                have hfin := H.out.pics hkp (fun b hb => HOB.out b hb) hpics
                have hN : firstC 3 (List.replicate (k + 1) pic0) = { firstC 3 (List.replicate k pic0) with pics := List.replicate k pic0 ++ [pic0] } := by rw [List.replicate_succ']; rfl
                rw [← hN] at hfin
                have HFIN := Lib.hid hfin
                clear hrow hrl hw1 hgp hR hpics hkp hfin hN ho5 hg5 hb5
                go_wp2_with fail
                have hg := HG.out
                go_roundg (3 - (k + 1))
                case measure => omega
                case rel => exact ⟨k + 1, _, by omega, by go_num, HFIN.out⟩
            · have hk3 : k = 3 := by have := HG.out; omega
              subst hk3
              go_wp2_with fail
              go_ret
              exact ⟨cb, K2, rfl, H.out⟩
end
end Go.Proofs.YtajnfkmkombajabGreatDoor
namespace Go.Proofs.YtajnfkmkombajabGreatDoor
open Go.RowKit Go.ChangeShapes

set_option maxRecDepth 100000 in
/-- the listed errors' own places, blocks, and that they differ -/
theorem sents_vars {W : World} (PS : List MemPlace) (hrows : ∀ b off, MemPlace.cell b off ∈ PS → (∃ c t, W.heap[b]? = some (.cells c t (0, 0))) ∧ ∀ u v, W.cell? ⟨b, off, none⟩ = some (.iface u v) → Value.okWide Tryz.prog W .any 0 u v) :
    ∀ (cs : List Nat) (l : List (String × DataW Unit)) (ps : List MemPlace), LaidAs cs l → DataW.LaidVars Tryz.prog W l ps → ps.Nodup → (∀ x ∈ ps, x ∈ PS) →
    ∃ A : Nat → Addr, (∀ c ∈ cs, W.cell? ⟨gE c, 0, none⟩ = some (ev A c)) ∧ (∀ c ∈ cs, MemPlace.cell (A c).block (A c).off ∈ ps) ∧ ∀ c ∈ cs, ∀ d ∈ cs, c ≠ d → A c ≠ A d
  | [], [], _, _, _, _, _ => ⟨fun _ => ⟨0, 0, none⟩, (fun c hc => by cases hc), (fun c hc => by cases hc), fun c hc => by cases hc⟩
  | c :: cs, (n, d) :: r, ps, ⟨⟨h0, h1, h2, h3, text, h4⟩, hr⟩, hv, hnd, hsub => by
    obtain ⟨g, t, xs, fuel, p, q, e1, e2, e3, e4, hq, rfl⟩ := hv
    simp only at h4 h2
    subst h4
    obtain rfl := Option.some.inj (h2.symm.trans e1)
    obtain rfl := Option.some.inj (h3.symm.trans e2)
    obtain ⟨l0⟩ := xs
    have ok0 : ∀ u v, l0 = [.iface u v] → Value.okWide Tryz.prog W .any 0 u v := fun u v e => by
      subst e
      exact (hrows (gE c) 0 (hsub _ (by simp [MemPlace.row]))).2 u v (by simpa using World.var?_cell e1 e3 0)
    obtain ⟨a0, s0, rfl, hc0, hs0, hz0, rfl⟩ := errorString_of_trod Tryz.underlying26 Tryz.rowErr Tryz.underlying235 Tryz.underlying237 rfl rfl Tryz.underlying9 Tryz.cellsErr Tryz.cellsStr e4 ok0
    have hnq : q.Nodup := (List.nodup_append.1 hnd).2.1
    obtain ⟨A, hA1, hA2, hA3⟩ := sents_vars PS hrows cs r q hr hq hnq (fun x hx => hsub x (by simp [hx]))
    refine ⟨fun k => if k = c then a0 else A k, fun k hk => ?_, fun k hk => ?_, fun k hk j hj hkj => ?_⟩
    · by_cases hkc : k = c
      · subst hkc
        have := World.var?_cell e1 e3 0
        rw [ev_some _ h0]
        simpa using this
      · have hk' : k ∈ cs := by simpa [hkc] using hk
        have := hA1 k hk'
        rw [this]; simp [ev, hkc]
    · by_cases hkc : k = c
      · subst hkc; simp only [if_true]; exact List.mem_append_left _ (by simp [MemPlace.row])
      · simp only [if_neg hkc]; exact List.mem_append_right _ (hA2 k (by simpa [hkc] using hk))
    · have far : ∀ m ∈ cs, A m ≠ a0 := by
        intro m hm e
        have h1 := hA2 m hm
        rw [e] at h1
        exact (List.nodup_append.1 hnd).2.2 _ (by simp [MemPlace.row]) _ h1 rfl
      by_cases hkc : k = c
      · have hjc : j ≠ c := fun e => hkj (by rw [hkc, e])
        simp only [if_pos hkc, if_neg hjc]
        exact fun e => far j (by simpa [hjc] using hj) e.symm
      · by_cases hjc : j = c
        · simp only [if_neg hkc, if_pos hjc]
          exact far k (by simpa [hkc] using hk)
        · simp only [if_neg hkc, if_neg hjc]
          exact hA3 k (by simpa [hkc] using hk) j (by simpa [hjc] using hj) hkj
  | [], _ :: _, _, h, _, _, _ => h.elim
  | _ :: _, [], _, h, _, _, _ => h.elim

def errorName : List UInt8 := [101, 114, 114, 111, 114]
theorem only_error : ((List.range Tryz.prog.types.size).all fun ty => !Tryz.prog.rowNamed ty errorName || ty == 26) = true := by kernel_rfl
theorem rtype_at : (Tryz.prog.cutTypes.find? (·.1 == "internal/reflectlite.rtype")).map (·.2) = some 142 := by kernel_rfl
theorem globals_size : Tryz.prog.globals.size = 26 := by kernel_rfl

theorem sents_of_laid {W : World} {L : List (String × DataW Unit)} (hL : laidMetH Tryz.prog L W) (h1 : LaidAs [1, 2, 3, 4, 5, 6, 7, 8, 9, 10] (L.filter fun x => x.2.handleName?.isNone))
    (h2 : ("errors.errorType", DataW.iface "internal/reflectlite.rtype" (.agg [.ptr (.lit (.string errorName))])) ∈ L) (h3 : Tryz.prog.globalNamed "errors.errorType" = some 10) : ∃ A, Sents A W := by
  obtain ⟨hm, hh⟩ := laidMetH_iff.1 hL
  obtain ⟨ps, hv, hnd, hrows⟩ := hm
  obtain ⟨A, a1, a2, a3⟩ := sents_vars ps hrows _ _ ps h1 hv hnd (fun x hx => hx)
  refine ⟨A, ⟨⟨a1⟩, ?_, fun c c1 c2 => ?_, fun c d c1 c2 d1 d2 hcd => a3 c (by simp; omega) d (by simp; omega) hcd⟩⟩
  · have := hh _ (List.mem_filter.2 ⟨h2, by rfl⟩)
    have hf : (DataW.iface (H := Unit) "internal/reflectlite.rtype" (.agg [.ptr (.lit (.string errorName))])).funcsIn? = none := by kernel_rfl
    rw [show (("errors.errorType", DataW.iface (H := Unit) "internal/reflectlite.rtype" (.agg [.ptr (.lit (.string errorName))])) : String × DataW Unit).2.funcsIn? = none from hf] at this
    obtain ⟨name, u, ty, e1, e2, e3, e4, e5⟩ := this
    have hn : name = errorName := by
      have h0 : (DataW.iface (H := Unit) "internal/reflectlite.rtype" (.agg [.ptr (.lit (.string errorName))])).handleName? = some errorName := by kernel_rfl
      exact Option.some.inj (e1.symm.trans h0)
    subst hn
    rw [rtype_at] at e2
    obtain rfl := Option.some.inj e2
    have hty : ty = 26 := by
      have := List.all_eq_true.1 only_error ty (List.mem_range.2 e3)
      rw [e4] at this
      simpa using this
    subst hty
    have := World.var?_cell h3 e5 0
    unfold ErrType
    simpa [typeHandle, globals_size] using this
  · obtain ⟨cs, t, hc⟩ := (hrows _ _ (a2 c (by simp; omega))).1
    exact ⟨cs, t, hc⟩
end Go.Proofs.YtajnfkmkombajabGreatDoor
namespace Go.Proofs.YtajnfkmkombajabGreatDoor
open Go.RowKit Go.Maps

/-- a chain in memory that is new since W -/
structure CN (W : World) (cb : Nat) (K : ChL) (n sd : Nat) (x : CS) (w : World) : Prop where
  below : Below W.heap.size W w
  ch : ChainL cb K n sd x w
  new : ∀ b, K.foot cb b → W.heap.size ≤ b
section
variable {W w w' : World} {cb cb2 n m n2 sd sd2 : Nat} {K K' K2 : ChL} {x y z : CS} {G : Nat → Prop}
theorem CN.go (h : CN W cb K n sd x w) : ChGo w (K.foot cb) cb K n sd x w := ChGo.start h.ch (fun _ hb => hb) h.ch.footlt
theorem CN.of (h : CN W cb K n sd x w) (k : ChGo w (K.foot cb) cb K' m sd y w') : CN W cb K' m sd y w' :=
  ⟨Keep.after h.below k.keep h.new, k.ch, fun b hb => (k.foot b hb).elim (h.new b) (fun ⟨a, _⟩ => Nat.le_trans h.below.size a)⟩
theorem CN.next (h : CN W cb K n sd x w) (b : Below w.heap.size w w') : CN W cb K n sd x w' := ⟨btrans h.below b, h.ch.below b, h.new⟩
theorem CN.drewN (h : CN W cb K n sd x w) (j : Nat) : CN W cb K n sd x (w.drewN j) := h.next ((Below.refl _ _).drewN j)
theorem CN.other (h : CN W cb K n sd x w) (k : Keep G w w') (hG : ∀ b, G b → W.heap.size ≤ b) (hd : ∀ b, K.foot cb b → ¬ G b) : CN W cb K n sd x w' := ⟨Keep.after h.below k hG, h.ch.keep k hd, h.new⟩
theorem CN.fe {A : Nat → Addr} {S : List Nat} (h : CN W cb K n sd x w) (hE : Errs A S W) : ∀ c ∈ S, ¬ K.foot cb (gE c) := fun c hc hf => by have := h.new _ hf; have := hE.lt hc; omega
theorem CN.errs {A : Nat → Addr} {S : List Nat} (h : CN W cb K n sd x w) (hE : Errs A S W) : Errs A S w := hE.below h.below
theorem CN.since {W0 : World} (h : CN W cb K n sd x w) (b : Below W0.heap.size W0 W) : CN W0 cb K n sd x w := ⟨b.trans (h.below.mono b.size), h.ch, fun c hc => Nat.le_trans b.size (h.new c hc)⟩
theorem ChGo.cn (h : ChGo W noF cb K n sd x w) : CN W cb K n sd x w := ⟨⟨h.keep.os, h.keep.tape, h.keep.output, h.keep.size, fun k hk => h.keep.block k hk id⟩, h.ch, fun b hb => (h.foot b hb).elim (fun e => e.elim) (·.1)⟩
end

noncomputable def CS.btV (x : CS) (sd : Nat) (r : Int) : Int := if x.turnC r = 0 then x.turnV sd r else 0
noncomputable def CS.btN (x : CS) (sd : Nat) (r : Int) : Int := if x.turnC r = 0 then (x.reward (x.turnV sd r)).1 else 0
noncomputable def CS.btS (x : CS) (sd : Nat) (r : Int) : CS := if x.turnC r = 0 then (x.reward (x.turnV sd r)).2.stepOp else x

section
variable (A : Nat → Addr) (S : List Nat) (W : World) (F : Nat → Prop) (cb : Nat) (K : ChL) (n sd : Nat) (x : CS) (w : World)
end

theorem turnV_bd {x : CS} (h : x.Inv) (sd : Nat) (r : Int) : 0 ≤ x.turnV sd r ∧ x.turnV sd r < 3 := by
  unfold CS.turnV
  split
  · have hl : x.pics.getD 0 [] ∈ x.pics := getD_mem _ _ _ (by rw [h.three]; decide)
    obtain ⟨h1, h2, h3⟩ := h.pic _ hl
    obtain ⟨k, e, hk, _⟩ := bakerV_weight (zs := x.pics.getD 0 []) (by rw [pic_fine ⟨h2, h1, h3⟩]) sd x.cycle x.level r
    rw [h1] at hk
    rw [e]; omega
  · omega
theorem begun_facts : CS.new.turnC 0 = 0 ∧ ∀ sd, 0 ≤ CS.new.turnV sd 0 ∧ CS.new.turnV sd 0 < 3 := by
  refine ⟨?_, fun sd => turnV_bd CS.new_inv sd 0⟩
  unfold CS.turnC
  rw [if_pos (by show roundOk 0 0 0; decide)]

end Go.Proofs.YtajnfkmkombajabGreatDoor
namespace Go.Proofs.YtajnfkmkombajabGreatDoor
open Go.RowKit

/-- an act on a chain alone: what was minted by it, and what is left -/
noncomputable def CS.doOp (x : CS) (sd : Nat) (a : ActC) : Int × CS :=
  if (a.kind.toList == [112, 97, 121]) = true then (0, { x with p := (x.p.moveOp a.o a.t a.n).2 })
  else if (a.kind.toList == [115, 116, 97, 107, 101]) = true then (0, (x.stakeOp a.o a.b a.n).2)
  else if (a.kind.toList == [117, 110, 115, 116, 97, 107, 101]) = true then (0, { x with s := (x.s.leaveOp a.o a.b a.n x.cycle).2 })
  else if (a.kind.toList == [102, 114, 101, 101]) = true then (0, (x.freeOp a.o).2.2)
  else if (a.kind.toList == [97, 99, 99, 117, 115, 101]) = true then (0, { x with k := (x.k.accuse a.o a.e x.cycle).2 })
  else if (a.kind.toList == [98, 97, 107, 101]) = true then ((x.bakeOp sd a.b a.round).1, (x.bakeOp sd a.b a.round).2.2)
  else (x.btN sd a.round, x.btS sd a.round)

theorem CS.doOp_eq (x : CS) (sd : Nat) (a : ActC) : x.doOp sd a =
  if (a.kind.toList == [112, 97, 121]) = true then (0, { x with p := (x.p.moveOp a.o a.t a.n).2 })
  else if (a.kind.toList == [115, 116, 97, 107, 101]) = true then (0, (x.stakeOp a.o a.b a.n).2)
  else if (a.kind.toList == [117, 110, 115, 116, 97, 107, 101]) = true then (0, { x with s := (x.s.leaveOp a.o a.b a.n x.cycle).2 })
  else if (a.kind.toList == [102, 114, 101, 101]) = true then (0, (x.freeOp a.o).2.2)
  else if (a.kind.toList == [97, 99, 99, 117, 115, 101]) = true then (0, { x with k := (x.k.accuse a.o a.e x.cycle).2 })
  else if (a.kind.toList == [98, 97, 107, 101]) = true then ((x.bakeOp sd a.b a.round).1, (x.bakeOp sd a.b a.round).2.2)
  else (x.btN sd a.round, x.btS sd a.round) := rfl

theorem CS.step_len' (c : CS) : c.stepOp.s.W.length = c.s.W.length ∧ c.stepOp.k.L = c.k.L := by
  have hj : ∀ (l : List (Int × EV)) (c : CS), (l.foldl CS.judge c).s.W.length = c.s.W.length := by
    intro l
    induction l with
    | nil => intro c; rfl
    | cons x l ih => intro c; rw [List.foldl_cons, ih]; exact SS.slash_len _ _ _ _
  unfold CS.stepOp
  split
  · exact ⟨hj _ _, rfl⟩
  · exact ⟨rfl, rfl⟩
/-- what the law asks of an act -/
structure DoOk (x : CS) (n : Int) (y : CS) : Prop where
  inv : y.Inv
  n0 : 0 ≤ n
  le : y.p.supply ≤ x.p.supply + n
  eq : y.cycle = x.cycle → y.p.supply = x.p.supply + n
  w : y.s.W.length ≤ x.s.W.length + 1
  k : y.k.L.length ≤ x.k.L.length + 1
  cy : y.cycle ≤ x.cycle + 1
theorem CS.baked_ok {x : CS} (h : x.Inv) (b : Int) : DoOk x (x.reward b).1 (x.reward b).2.stepOp := by
  obtain ⟨i1, i2, i3, i4, i5⟩ := CS.reward_inv h b
  obtain ⟨s1, s2, s3, s4, s5⟩ := CS.step_inv i1
  obtain ⟨l1, l2⟩ := CS.step_len' (x.reward b).2
  obtain ⟨k1, k2, k3⟩ := CS.reward_keeps x b
  exact ⟨s1, i2, by rw [← i3]; exact s2, fun hc => by rw [← i3]; exact s3 (by rw [hc, i4]), by rw [l1, CS.reward_len]; omega, by rw [l2, k2]; omega, by rw [← i4]; exact s5⟩
theorem CS.same_ok {x : CS} (h : x.Inv) : DoOk x 0 x := ⟨h, Int.le_refl _, by omega, fun _ => by omega, by omega, by omega, by omega⟩
theorem CS.stake_keeps (x : CS) (o b n : Int) : (x.stakeOp o b n).2.s.W = x.s.W ∧ (x.stakeOp o b n).2.k = x.k ∧ (x.stakeOp o b n).2.cycle = x.cycle := by
  unfold CS.stakeOp; split
  · exact ⟨rfl, rfl, rfl⟩
  · split <;> exact ⟨SS.join_len _ _ _ _, rfl, rfl⟩
theorem CS.free_keeps (x : CS) (o : Int) : (x.freeOp o).2.2.s.W.length = x.s.W.length ∧ (x.freeOp o).2.2.k = x.k ∧ (x.freeOp o).2.2.cycle = x.cycle := by
  unfold CS.freeOp; split <;> exact ⟨SS.free_len _ _ _, rfl, rfl⟩
theorem KS.accuse_len' (k : KS) (o : Int) (e : EV) (cy : Int) : (k.accuse o e cy).2.L.length ≤ k.L.length + 1 := by
  unfold KS.accuse; split <;> simp
theorem CS.do_ok {x : CS} (h : x.Inv) (sd : Nat) (a : ActC) : DoOk x (x.doOp sd a).1 (x.doOp sd a).2 := by
  unfold CS.doOp
  split
  · obtain ⟨h1, h2⟩ := CS.pay_inv h a.o a.t a.n
    exact ⟨h1, Int.le_refl _, by show (x.p.moveOp _ _ _).2.supply ≤ _; rw [h2]; omega, fun _ => by show (x.p.moveOp _ _ _).2.supply = _; rw [h2]; omega, by simp, by simp, by show x.cycle ≤ _; omega⟩
  · split
    · obtain ⟨h1, h2⟩ := CS.stake_inv h a.o a.b a.n
      obtain ⟨k1, k2, k3⟩ := CS.stake_keeps x a.o a.b a.n
      exact ⟨h1, Int.le_refl _, by rw [h2]; omega, fun _ => by rw [h2]; omega, by rw [k1]; omega, by rw [k2]; omega, by rw [k3]; omega⟩
    · split
      · exact ⟨CS.unstake_inv h a.o a.b a.n, Int.le_refl _, by simp, fun _ => by simp, SS.leave_len _ _ _ _ _, by simp, by show x.cycle ≤ _; omega⟩
      · split
        · obtain ⟨h1, h2, -⟩ := CS.free_inv h a.o
          obtain ⟨k1, k2, k3⟩ := CS.free_keeps x a.o
          exact ⟨h1, Int.le_refl _, by rw [h2]; omega, fun _ => by rw [h2]; omega, by rw [k1]; omega, by rw [k2]; omega, by rw [k3]; omega⟩
        · split
          · exact ⟨CS.accuse_inv h a.o a.e, Int.le_refl _, by simp, fun _ => by simp, by simp, KS.accuse_len' _ _ _ _, by show x.cycle ≤ _; omega⟩
          · split
            · unfold CS.bakeOp
              split
              · exact CS.same_ok h
              · split
                · exact CS.same_ok h
                · exact CS.baked_ok h _
            · unfold CS.btN CS.btS
              split
              · exact CS.baked_ok h _
              · exact CS.same_ok h

theorem CS.reward_most {x : CS} (h : x.Inv) (b : Int) : (x.reward b).1 ≤ 1125899906842624 := by
  have hi := CS.issues_bd h
  unfold CS.reward
  split
  · simp only; omega
  · split
    · simp only; omega
    · split
      · simp only; omega
      · exact hi.2
theorem CS.do_most {x : CS} (h : x.Inv) (sd : Nat) (a : ActC) : (x.doOp sd a).1 ≤ 1125899906842624 := by
  have h0 : (0 : Int) ≤ 1125899906842624 := by decide
  unfold CS.doOp
  split
  · exact h0
  · split
    · exact h0
    · split
      · exact h0
      · split
        · exact h0
        · split
          · exact h0
          · split
            · unfold CS.bakeOp
              split
              · exact h0
              · split
                · exact h0
                · exact CS.reward_most h _
            · unfold CS.btN
              split
              · exact CS.reward_most h _
              · exact h0
/-- what the first k owners have -/
def hasK (p : PS) (k : Nat) : Int := (p.has.take k).sum
theorem hasK_step {p : PS} (h : p.Ok) {k : Nat} (hk : k < 6) : hasK p (k + 1) = hasK p k + p.at k := by
  have hl := h.six
  unfold hasK PS.at
  rw [List.take_add_one, List.getElem?_eq_getElem (by omega), List.sum_append]
  simp [hl, hk]
theorem hasK_all {p : PS} (h : p.Ok) : hasK p 6 = p.sum := by
  unfold hasK; rw [List.take_of_length_le (by rw [h.six]; decide)]; exact h.sumIs
theorem hasK_bd {p : PS} (h : p.Ok) : ∀ {k : Nat}, k ≤ 6 → 0 ≤ hasK p k ∧ hasK p k ≤ p.sum
  | 0, _ => ⟨by simp [hasK], by simpa [hasK] using h.sum_bd⟩
  | k + 1, hk => by
    have h1 := hasK_bd h (k := k) (by omega)
    rw [hasK_step h (by omega)]
    refine ⟨by have := (h.at_bd k).1; omega, ?_⟩
    have hx : ∀ m, k + 1 + m = 6 → hasK p (k + 1) ≤ hasK p 6 := by
      intro m
      have : ∀ m j, j + m = 6 → hasK p j ≤ hasK p 6 := by
        intro m
        induction m with
        | zero => intro j hj; rw [show j = 6 by omega]; exact Int.le_refl _
        | succ m ih =>
          intro j hj
          have := ih (j + 1) (by omega)
          rw [hasK_step h (by omega)] at this
          have := (h.at_bd j).1
          omega
      exact this m (k + 1)
    have := hx (5 - k) (by omega)
    rw [hasK_all h, hasK_step h (by omega)] at this
    exact this
end Go.Proofs.YtajnfkmkombajabGreatDoor
namespace Go.Proofs.YtajnfkmkombajabGreatDoor
open Go.RowKit

theorem QS.join10 {q : QS} {o n : Int} : (q.joinOp o n).1 ≤ 10 := by
  unfold QS.joinOp; repeat' split
  all_goals simp only; omega
theorem QS.take10 {q : QS} {o n : Int} : (q.takeOp o n).1 ≤ 10 := by
  unfold QS.takeOp; repeat' split
  all_goals simp only; omega
theorem QS.add10 {q : QS} {n : Int} : (q.addOp n).1 ≤ 10 := by
  unfold QS.addOp; repeat' split
  all_goals simp only; omega
theorem QS.slash10 {q : QS} {n : Int} : (q.slashOp n).2.1 ≤ 10 := by
  unfold QS.slashOp; repeat' split
  all_goals simp only; omega
theorem SS.reg10 {s : SS} {k : Int} : (s.regOp k).1 ≤ 10 := by
  unfold SS.regOp; repeat' split
  all_goals simp only; omega
theorem SS.join10 {s : SS} {o k n : Int} : (s.joinOp o k n).1 ≤ 10 := by
  unfold SS.joinOp
  split
  · simp
  · exact QS.join10
theorem SS.add10 {s : SS} {k n : Int} : (s.addOp k n).1 ≤ 10 := by
  unfold SS.addOp
  split
  · simp
  · exact QS.add10
theorem SS.leave10 {s : SS} {o k n c : Int} : (s.leaveOp o k n c).1 ≤ 10 := by
  unfold SS.leaveOp
  split
  · simp
  · split
    · simp
    · split
      · exact QS.take10
      · simp only
        split
        · exact QS.join10
        · simp
theorem SS.free10 {s : SS} {o c : Int} : (s.freeOp o c).2.1 ≤ 10 := by
  unfold SS.freeOp; repeat' split
  all_goals simp only; omega
theorem SS.slash10 {s : SS} {k f p : Int} : (s.slashOp k f p).2.1 ≤ 10 := by
  unfold SS.slashOp
  split
  · simp
  · split
    · exact QS.slash10
    · simp
theorem KS.accuse10 {k : KS} {o : Int} {e : EV} {cy : Int} : (k.accuse o e cy).1 ≤ 10 := by
  have : k.code o e cy ≤ 10 := by unfold KS.code; repeat' split
                                  all_goals omega
  unfold KS.accuse
  split
  · exact this
  · simp
theorem lookC10 {o n : Int} : lookC o n ≤ 10 := by
  unfold lookC; split
  · exact Nat.zero_le _
  · decide
theorem PS.out10 {p : PS} {o n : Int} : (p.outOp o n).1 ≤ 10 := by
  have := @lookC10 o n
  unfold PS.outOp; repeat' split
  all_goals (simp only; omega)
theorem PS.in10 {p : PS} {o n : Int} : (p.inOp o n).1 ≤ 10 := by
  have := @lookC10 o n
  unfold PS.inOp; repeat' split
  all_goals (simp only; omega)
theorem PS.move10 {p : PS} {o t n : Int} : (p.moveOp o t n).1 ≤ 10 := by
  have := @lookC10 t n; have := @PS.out10 p o n
  unfold PS.moveOp; repeat' split
  all_goals first | omega | exact PS.in10 | (simp only; omega)
end Go.Proofs.YtajnfkmkombajabGreatDoor
namespace Go.Proofs.YtajnfkmkombajabGreatDoor
open Go.RowKit

/-- the code of a block by its turn is the turn's; one number of a play, v from 0 on: an error's number, and what is left -/
noncomputable def CS.oneOp (x : CS) (sd : Nat) (v : Int) : Nat × CS :=
  if v % 8 = 0 then ((x.p.moveOp (v / 8 % 6) (v / 8 / 6 % 3) (1 + v / 8 / 18 % 2000)).1, { x with p := (x.p.moveOp (v / 8 % 6) (v / 8 / 6 % 3) (1 + v / 8 / 18 % 2000)).2 })
  else if v % 8 = 1 then x.stakeOp (v / 8 % 6) (v / 8 / 6 % 3) (1 + v / 8 / 18 % 2000)
  else if v % 8 = 2 then ((x.s.leaveOp (v / 8 % 6) (v / 8 / 6 % 3) (1 + v / 8 / 18 % 2000) x.cycle).1, { x with s := (x.s.leaveOp (v / 8 % 6) (v / 8 / 6 % 3) (1 + v / 8 / 18 % 2000) x.cycle).2 })
  else if v % 8 = 3 then ((x.freeOp (v / 8 % 6)).2.1, (x.freeOp (v / 8 % 6)).2.2)
  else if v % 8 = 4 then ((x.k.accuse (v / 8 % 6) ⟨v / 8 / 6 % 3, x.cycle - v / 8 / 18 % 4, v / 8 / 72 % 5⟩ x.cycle).1, { x with k := (x.k.accuse (v / 8 % 6) ⟨v / 8 / 6 % 3, x.cycle - v / 8 / 18 % 4, v / 8 / 72 % 5⟩ x.cycle).2 })
  else (x.turnC (v / 8 % 8), x.btS sd (v / 8 % 8))
/-- a number of a play: its answer, and what is left -/
noncomputable def CS.playOp (x : CS) (sd : Nat) (v : Int) : Int × CS := if v < 0 then (-1, x) else ((x.oneOp sd v).1, (x.oneOp sd v).2)
noncomputable def CS.runA (x : CS) (sd : Nat) : List Int → List Int
  | [] => []
  | v :: l => (x.playOp sd v).1 :: CS.runA (x.playOp sd v).2 sd l
noncomputable def CS.runS (x : CS) (sd : Nat) (l : List Int) : CS := l.foldl (fun y v => (y.playOp sd v).2) x

theorem CS.runS_snoc (x : CS) (sd : Nat) (l : List Int) (v : Int) : x.runS sd (l ++ [v]) = ((x.runS sd l).playOp sd v).2 := by
  unfold CS.runS; rw [List.foldl_append]; rfl
theorem CS.runS_append (x : CS) (sd : Nat) (l m : List Int) : x.runS sd (l ++ m) = (x.runS sd l).runS sd m := by
  unfold CS.runS; rw [List.foldl_append]
theorem CS.runA_append (sd : Nat) (m : List Int) : ∀ (l : List Int) (x : CS), x.runA sd (l ++ m) = x.runA sd l ++ (x.runS sd l).runA sd m
  | [], x => rfl
  | v :: l, x => by
    show (x.playOp sd v).1 :: CS.runA (x.playOp sd v).2 sd (l ++ m) = (x.playOp sd v).1 :: (CS.runA (x.playOp sd v).2 sd l ++ _)
    rw [CS.runA_append sd m l]; rfl
theorem CS.runA_snoc (x : CS) (sd : Nat) (l : List Int) (v : Int) : x.runA sd (l ++ [v]) = x.runA sd l ++ [((x.runS sd l).playOp sd v).1] := CS.runA_append sd [v] l x
theorem CS.runA_len (sd : Nat) : ∀ (l : List Int) (x : CS), (x.runA sd l).length = l.length
  | [], _ => rfl
  | v :: l, x => by show (CS.runA _ sd l).length + 1 = l.length + 1; rw [CS.runA_len sd l]

/-- what is left is right, and is little more -/
structure OneOk (x y : CS) : Prop where
  inv : y.Inv
  w : y.s.W.length ≤ x.s.W.length + 1
  k : y.k.L.length ≤ x.k.L.length + 1
  cy : y.cycle ≤ x.cycle + 1
theorem DoOk.one {x y : CS} {n : Int} (h : DoOk x n y) : OneOk x y := ⟨h.inv, h.w, h.k, h.cy⟩
theorem CS.one_ok {x : CS} (h : x.Inv) (sd : Nat) (v : Int) : OneOk x (x.oneOp sd v).2 := by
  unfold CS.oneOp
  generalize v / 8 % 6 = o
  generalize v / 8 / 6 % 3 = b
  generalize 1 + v / 8 / 18 % 2000 = n
  generalize v / 8 / 18 % 4 = k4
  generalize v / 8 / 72 % 5 = nn
  generalize v / 8 % 8 = r
  split
  · obtain ⟨h1, h2⟩ := CS.pay_inv h o b n
    exact ⟨h1, by simp, by simp, by show x.cycle ≤ _; omega⟩
  · split
    · obtain ⟨h1, h2⟩ := CS.stake_inv h o b n
      obtain ⟨k1, k2, k3⟩ := CS.stake_keeps x o b n
      exact ⟨h1, by rw [k1]; omega, by rw [k2]; omega, by rw [k3]; omega⟩
    · split
      · exact ⟨CS.unstake_inv h o b n, SS.leave_len _ _ _ _ _, by simp, by show x.cycle ≤ _; omega⟩
      · split
        · obtain ⟨h1, h2, -⟩ := CS.free_inv h o
          obtain ⟨k1, k2, k3⟩ := CS.free_keeps x o
          exact ⟨h1, by rw [k1]; omega, by rw [k2]; omega, by rw [k3]; omega⟩
        · split
          · exact ⟨CS.accuse_inv h o _, by simp, KS.accuse_len' _ _ _ _, by show x.cycle ≤ _; omega⟩
          · simp only
            unfold CS.btS
            split
            · exact (CS.baked_ok h _).one
            · exact (CS.same_ok h).one
theorem CS.play_ok {x : CS} (h : x.Inv) (sd : Nat) (v : Int) : OneOk x (x.playOp sd v).2 := by
  unfold CS.playOp
  split
  · exact (CS.same_ok h).one
  · exact CS.one_ok h sd v
theorem CS.one_le (x : CS) (sd : Nat) (v : Int) : (x.oneOp sd v).1 ≤ 10 := by
  unfold CS.oneOp
  split
  · exact PS.move10
  · split
    · unfold CS.stakeOp
      split
      · exact PS.out10
      · split
        · exact SS.join10
        · simp
    · split
      · exact SS.leave10
      · split
        · unfold CS.freeOp
          split
          · exact SS.free10
          · exact PS.in10
        · split
          · exact KS.accuse10
          · simp only; unfold CS.turnC; split <;> omega
/-- a chain that has gone through t numbers -/
structure PlayQ (t : Nat) (x : CS) : Prop where
  inv : x.Inv
  w : x.s.W.length ≤ t
  k : x.k.L.length ≤ t
  cy : x.cycle ≤ t
theorem PlayQ.new : PlayQ 0 CS.new := ⟨CS.new_inv, by decide, by decide, by decide⟩
theorem PlayQ.next {t : Nat} {x : CS} (h : PlayQ t x) (sd : Nat) (v : Int) : PlayQ (t + 1) (x.playOp sd v).2 := by
  have o := CS.play_ok h.inv sd v
  have := o.w; have := o.k; have := o.cy; have := h.w; have := h.k; have := h.cy
  exact ⟨o.inv, by omega, by omega, by omega⟩
theorem PlayQ.run {x : CS} (sd : Nat) : ∀ (l : List Int) {t : Nat} {x : CS}, PlayQ t x → PlayQ (t + l.length) (x.runS sd l)
  | [], _, _, h => h
  | v :: l, t, x, h => by
    have := PlayQ.run (x := x) sd l (h.next sd v)
    rw [show t + 1 + l.length = t + (v :: l).length by simp; omega] at this
    exact this
/-- Spend, Staked, Supply of it -/
theorem PlayQ.sums {t : Nat} {x : CS} (h : PlayQ t x) : hasK x.p 6 + x.s.total = x.p.supply := by rw [hasK_all h.inv.p]; exact h.inv.bal
end Go.Proofs.YtajnfkmkombajabGreatDoor
