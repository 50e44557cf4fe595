/-
  The document's chain: how it begins.
  The document's chain: one number of a play.
  The document's chain: a whole play.
  Contracts of the laws' coded and faulted (package bakehouselaw3).
  The chain and the document's chain side by side.
  The walk of an act on a chain alone.
-/
import Derived.Test.YtajnfkmkombajacGreatDoorQPA36
import Derived.Test.YtajnfkmkombajacGreatDoorQPA23
import Derived.Test.YtajnfkmkombajacGreatDoorQPA30
import Derived.Test.YtajnfkmkombajacGreatDoorQPA25
import Derived.Test.YtajnfkmkombajacGreatDoorQPA24
set_option linter.unusedVariables false
set_option linter.unusedSimpArgs false
set_option linter.unusedVariables false
namespace Go.Proofs.YtajnfkmkombajacGreatDoor
open Go.RowKit Go.Maps

theorem rchain_begin {w w1 w2 : World} {pb gb sb sd : Nat} (b1 : Below w.heap.size w w1) (hpb : w.heap.size ≤ pb) (hhb : w.heap.size ≤ gb) (hp : RPurseAt pb gb PS.new w1) (b2 : Below w1.heap.size w1 w2) (hs : RStAt sb (fun b => w1.heap.size ≤ b ∧ b < w2.heap.size) SS.new w2) :
    RChGo w noF (w2.heap.size + 1) ⟨pb, gb, sb, w2.heap.size, fun b => w1.heap.size ≤ b ∧ b < w2.heap.size, fun b => b = w2.heap.size, noF, .slice none 0 0⟩ sd ⟨PS.new, SS.new, KS.new, 0, 0, 0, []⟩ []
      ((w2.alloc (.cells #[.slice none 0 0, .int .i64 0] 149)).alloc (.cells #[.pointer (some ⟨pb, 0, none⟩), .pointer (some ⟨sb, 0, none⟩), .pointer (some ⟨w2.heap.size, 0, none⟩), .int .u64 sd, .int .i64 0, .int .i64 0, .int .i64 0, .slice none 0 0] 77)) := by
  obtain ⟨w3, hw3⟩ : ∃ w3, w2.alloc (.cells #[.slice none 0 0, .int .i64 0] 149) = w3 := ⟨_, rfl⟩
  have hz3 : w3.heap.size = w2.heap.size + 1 := by rw [← hw3]; simp
  have b3 : Below w2.heap.size w2 w3 := by rw [← hw3]; exact (Below.refl _ _).alloc (Nat.le_refl _) _
  have rk : RowAt w2.heap.size 149 [.slice none 0 0, .int .i64 0] w3 := by rw [← hw3]; exact RowAt.new _ _ _
  rw [hw3]
  have ba : ∀ ob, Below w3.heap.size w3 (w3.alloc ob) := fun ob => (Below.refl _ _).alloc (Nat.le_refl _) _
  have q1 := hp.two (.inl rfl)
  have q2 := hp.two (.inr rfl)
  have z1 := b1.size
  have z2 := b2.size
  have hk : RCourtAt w2.heap.size (fun b => b = w2.heap.size) KS.new w3 := ⟨.slice none 0 0, ⟨rk, ⟨rfl, .inl ⟨rfl, rfl⟩⟩, (fun e => by cases e), Nat.le_refl _⟩, rfl, (fun g hg => by cases hg), fun b hb => by rw [hb, hz3]; exact Nat.lt_succ_self _⟩
  have row := RowAt.new w3 77 [.pointer (some ⟨pb, 0, none⟩), .pointer (some ⟨sb, 0, none⟩), .pointer (some ⟨w2.heap.size, 0, none⟩), .int .u64 sd, .int .i64 0, .int .i64 0, .int .i64 0, .slice none 0 0]
  rw [hz3] at row
  refine ⟨Keep.of_below (btrans (btrans b1 (btrans b2 b3)) (ba _)), ⟨row, ?_, (hs.below b3).below (ba _), hk.below (ba _), ⟨⟨[], OwnSl.nil _ _ _, rfl, fun i v z hv => by simp at hv⟩, fun g hg => by cases hg⟩, fun b hb => hb.elim, ⟨?_, ?_, ?_, ?_, id⟩, fun b hb => ⟨?_, ?_, id⟩, fun b hb => ⟨?_, id⟩, fun b hb => id⟩, fun b hb => .inr ?_, fun b hb => hb.elim⟩
  · exact ((hp.keep (F := noF) (Keep.of_below b2) id id).keep (F := noF) (Keep.of_below b3) id id).keep (F := noF) (Keep.of_below (ba _)) id id
  · show w2.heap.size + 1 ≠ pb; omega
  · show w2.heap.size + 1 ≠ gb; omega
  · show ¬ (w1.heap.size ≤ w2.heap.size + 1 ∧ w2.heap.size + 1 < w2.heap.size); omega
  · show ¬ (w2.heap.size + 1 = w2.heap.size); omega
  · show ¬ (w1.heap.size ≤ b ∧ b < w2.heap.size)
    have : b = pb ∨ b = gb := hb
    omega
  · show ¬ (b = w2.heap.size)
    have : b = pb ∨ b = gb := hb
    omega
  · show ¬ (b = w2.heap.size)
    have : w1.heap.size ≤ b ∧ b < w2.heap.size := hb
    omega
  · have e : ∀ ob, (w3.alloc ob).heap.size = w2.heap.size + 2 := fun ob => by simp [hz3]
    rw [e]
    rcases hb with hb | hb | hb | hb | hb | hb
    · omega
    · have : b = pb := hb
      omega
    · have : b = gb := hb
      omega
    · have : w1.heap.size ≤ b ∧ b < w2.heap.size := hb
      omega
    · have : b = w2.heap.size := hb
      omega
    · exact hb.elim

theorem first_parts {k : Nat} (h : k < 3) : ∃ s, (firstS k).regOp k = (0, s) ∧ s.joinOp k k 1000 = (0, firstS (k + 1)) ∧ (firstP k).outOp k 1000 = (0, firstP (k + 1)) := by
  match k, h with
  | 0, _ => exact ⟨_, rfl, rfl, rfl⟩
  | 1, _ => exact ⟨_, rfl, rfl, rfl⟩
  | 2, _ => exact ⟨_, rfl, rfl, rfl⟩

section
variable (sd : Nat) (w : World)
set_option maxRecDepth 8000 in
set_option maxHeartbeats 2000000 in
theorem refc_New : Calls Tryz.prog 47 #[.int .u64 sd] w fun e w' => ∃ cb K, e = .returned (.pointer (some ⟨cb, 0, none⟩)) ∧ RChGo w noF cb K sd CS.new [pic0, pic0, pic0] w' := by
  go_enter Tryz.func47, Tryz.ntmps47
  go_wp2_with fail
  refine (refp_New _).mono ?_
  rintro e w1 ⟨pb, hb, rfl, b1, hpb, hhb, hp⟩
  go_wp2_with fail
  refine (refs_New _).mono ?_
  rintro e w2 ⟨sb, rfl, b2, hs⟩
  have H0 := Lib.hid (rchain_begin (sd := sd) b1 hpb hhb hp b2 hs)
  clear b1 hp b2 hs hpb hhb
  generalize hK0 : (⟨pb, hb, sb, w2.heap.size, fun b => w1.heap.size ≤ b ∧ b < w2.heap.size, fun b => b = w2.heap.size, noF, .slice none 0 0⟩ : RChL) = K0 at H0
  clear hK0
  go_wp2_with fail
  generalize hcb : w2.heap.size + 1 = cb at *
  clear hcb
  go_loopg [4] 6 (fun g c wr => ∃ k : Nat, g + k = 6 ∧ c = .int .i64 k ∧ RChGo w noF cb K0 sd ⟨PS.first k, SS.new, KS.new, 0, 0, 0, []⟩ [] wr)
  case atStart => exact ⟨0, rfl, rfl, H0.out⟩
  case round =>
    clear H0
    obtain ⟨k, hg, rfl, hh⟩ := hrel
    have HG := Lib.hid hg; have H := Lib.hid hh; clear hg hh
    by_cases hk : k < 6
    · have c0 := H.out.c0
      have HST := Lib.hid (PS.first_step hk)
      go_wp2_with fail
      refine (refp_Mint K0.pb K0.hb (PS.first k) k 10000 _ H.out.ch.purse).mono ?_
      rintro e wz ⟨rfl, ka⟩
      rw [HST.out] at ka ⊢
      have H1 := Lib.hid (H.out.purse ka); clear ka
      go_wp2_with fail
      have hg := HG.out
      go_roundg (6 - (k + 1))
      case measure => omega
      case rel => exact ⟨k + 1, by omega, by go_num, H1.out⟩
    · have hk6 : k = 6 := by have := HG.out; omega
      subst hk6
      have H0 := Lib.hid (show RChGo w noF cb K0 sd (firstC 0 []) [] wr from H.out)
      clear H HG hk
      go_wp2_with fail
      rename World => wa
      go_loopg [5] 3 (fun g c wr => ∃ (k : Nat) (K' : RChL), g + k = 3 ∧ c = .int .i64 k ∧ RChGo w noF cb K' sd (firstC k []) [] wr)
      case atStart => exact ⟨0, K0, rfl, rfl, H0.out⟩
      case round =>
        clear H0
        obtain ⟨k, K1, hg, rfl, hh⟩ := hrel
        have HG := Lib.hid hg; have H := Lib.hid hh; clear hg hh
        by_cases hk : k < 3
        · have c1 := H.out.c1
          obtain ⟨s, e1, e2, e3⟩ := first_parts hk
          have HE1 := Lib.hid e1; have HE2 := Lib.hid e2; have HE3 := Lib.hid e3; clear e1 e2 e3
          go_wp2_with fail
          refine (refs_Register K1.sb K1.Fs (firstS k) _ k H.out.ch.st).mono ?_
          rintro e wz ⟨rfl, ka⟩
          rw [HE1.out] at ka ⊢
          have H1 := Lib.hid (show RChGo w noF cb (K1.withS _ wz) sd ⟨firstP k, s, KS.new, 0, 0, 0, []⟩ [] wz from H.out.stakes ka); clear ka c1
          have d0 := H1.out.c0
          go_wp2_with fail
          refine (refp_Out K1.pb K1.hb (firstP k) k 1000 _ H1.out.ch.purse).mono ?_
          rintro e wy ⟨rfl, ka⟩
          rw [HE3.out] at ka ⊢
          have H2 := Lib.hid (H1.out.purse ka); clear ka d0
          have d1 := H2.out.c1
          go_wp2_with fail
          refine (refs_Join K1.sb _ s _ k k 1000 H2.out.ch.st).mono ?_
          rintro e wx ⟨rfl, ka⟩
          rw [HE2.out] at ka ⊢
          have H3 := Lib.hid (H2.out.stakes ka); clear ka d1
          go_wp2_with fail
          have hg := HG.out
          go_roundg (3 - (k + 1))
          case measure => omega
          case rel => exact ⟨k + 1, _, by omega, by go_num, H3.out⟩
        · have hk3 : k = 3 := by have := HG.out; omega
          subst hk3
          have H0 := Lib.hid (show RChGo w noF cb K1 sd (firstC 3 []) (List.replicate 0 pic0) wr from H.out)
          clear H HG hk
          go_wp2_with fail
          go_loopg [6] 3 (fun g c wr => ∃ (k : Nat) (K' : RChL), g + k = 3 ∧ c = .int .i64 k ∧ RChGo w noF cb K' sd (firstC 3 []) (List.replicate k pic0) wr)
          case atStart => exact ⟨0, K1, rfl, rfl, H0.out⟩
          case round =>
            clear H0
            obtain ⟨k, K2, hg, rfl, hh⟩ := hrel
            have HG := Lib.hid hg; have H := Lib.hid hh; clear hg hh
            by_cases hk : k < 3
            · obtain ⟨vs, o1, o2, o3⟩ := H.out.ch.pics.own
              have oblk := H.out.ch.pics.blk
              obtain ⟨i0, hi, hz0, hz1, hz2⟩ := info_parts infoSl
              obtain ⟨va, vc, hv, hvc, hvm⟩ := o1.shape
              have hlen : vs.length = k := by rw [o2]; simp
              have HPI := Lib.hid (fun wx (hb : Below wr.heap.size wr wx) => refs_PictureOf K2.sb K2.Fs (firstC 3 []).s wx (H.out.below hb).ch.st)
              have HPQ := Lib.hid (first_picture [])
              have HF := Lib.hid (show ∀ wx, Below wr.heap.size wr wx → wx.cell? ⟨cb, 1, none⟩ = some (.pointer (some ⟨K2.sb, 0, none⟩)) ∧ wx.cell? ⟨cb, 7, none⟩ = some (.slice va k vc) ∧ (∀ ob, (wx.alloc ob).cell? ⟨cb, 7, none⟩ = some (.slice va k vc)) ∧ OwnSl 0 38 (.slice va k vc) vs wx from fun wx hb => by
                have h1 := H.out.below hb
                have hr := h1.ch.row
                have e : K2.pv = .slice va k vc := by rw [hv, hlen]
                refine ⟨h1.c1, by rw [← e]; exact h1.c7, fun ob => by rw [← e]; exact (hr.alloc ob).cell 7, ?_⟩
                rw [← e]
                exact o1.keep (Keep.of_below (F := fun _ => False) hb) (fun _ _ => id))
              have HO3 := Lib.hid o3; have HOB := Lib.hid oblk
              have HV := Lib.hid (show K2.pv = .slice va k vc by rw [hv, hlen])
              have HLN := Lib.hid hlen
              obtain ⟨f1, f7, f7a, -⟩ := HF.out wr (Below.refl _ _)
              have hcap : vc ≤ maxLen := hvm
              have HS := Lib.hid (show ∀ (w2 : World) (ob : Obj) (w5 : World), Below wr.heap.size wr w2 → (w2.alloc ob).grownBy w5 (Value.slice va k vc).ownBlock → w5.cell? ⟨cb, 7, none⟩ = some (.slice va k vc) ∧ w5.frozen? ⟨cb, 7, none⟩ = false from fun w2 ob w5 hb hg => by
                have h1 := H.out.below hb
                have hr : RowAt cb 77 (rchainVs K2 sd (firstC 3 [])) w5 := h1.ch.row.keep (((Keep.refl (fun b => K2.pv.ownBlock = some b) w2).alloc ob).grown hg (fun j hj => .inl (by rw [HV.out]; exact hj))) (fun e => H.out.ch.d0.2.2.2.2 (HOB.out _ e))
                have e : K2.pv = .slice va k vc := HV.out
                refine ⟨?_, hr.frozen 7⟩
                rw [← e]; exact hr.cell 7)
              clear o1 o2 o3 oblk hv hvc hlen f7a hcap hvm
              go_wp2_with fail
              go_region_law ((first
                | (refine step_append_sl rfl (.tmp 55) (.tmp 61) 57 rfl 0 38 i0 (.slice none 0 0) 24 Tryz.underlying57 hi hz0 hz1 hz2 rfl (.slice va k vc) vs rfl (OwnSl.alloc (HF.out w2 H2.out).2.2.2 _) ⟨_, 0, none⟩ (.slice pa 3 pc) rfl (World.news_of_block (heap_alloc_new _ _)) (by intro u hu; simp at hu; subst hu; rfl) (by rw [HLN.out]; unfold maxLen; omega) (by rw [HLN.out]; omega) (Nat.zero_le _) ?_; intro v2 w5 ho5 hg5 hb5; obtain ⟨za, zc, hv2, -, -⟩ := ho5.shape; rw [List.length_append, HLN.out] at hv2; simp only [List.length_cons, List.length_nil, Nat.zero_add] at hv2; subst hv2; obtain ⟨m7, mf7⟩ := HS.out w2 _ w5 H2.out hg5)
                | (go_simp; go_at_call 30; refine (HPI.out _ ((Below.refl _ _).drewN 1)).mono ?_; rintro e w2 ⟨pa, pc, rfl, hrow, hb2⟩; have H2 := Lib.hid (btrans ((Below.refl _ _).drewN 1) hb2); obtain ⟨p1, p7, p7a, -⟩ := HF.out w2 H2.out; have p7b := p7a (.cells #[.slice pa 3 pc] 38); clear p7a)))
              all_goals
                rw [HPQ.out] at hrow
                have hw1 : Below wr.heap.size wr (w2.alloc (.cells #[.slice pa 3 pc] 38)) := H2.out.alloc H2.out.size _
                have hgp : (w2.alloc (.cells #[.slice pa 3 pc] 38)).grownBy w5 K2.pv.ownBlock := by rw [HV.out]; exact hg5
                have hR : RdI .i64 (w2.alloc (.cells #[.slice pa 3 pc] 38)) pa 3 pc pic0 := (RdI.of_own hrow).below ((Below.refl _ _).alloc (Nat.le_refl _) _)
                have hpics := PicsAt.appended (w := wr) (vs1 := vs) (u := .slice pa 3 pc) (cb := cb) (m := 7) (x := .slice za (k + 1) zc) (pics := List.replicate k pic0) (z := pic0) (fun b hb => H.out.ch.pl b hb) HOB.out (by rw [HLN.out]; simp) HO3.out hw1 hgp ho5 (by rw [HV.out]; exact hb5) (fun g hg => (ho5.blk hg).2)
                  ⟨pa, pc, rfl, hR, fun a ha => by
                    have hl : wr.heap.size ≤ a.block ∧ a.block < w2.heap.size := hrow.lt a.block (by rw [ha]; rfl)
                    exact ⟨.inr ⟨hl.1, by simp; omega⟩, fun e => by have := H.out.ch.pl _ (HOB.out _ e); have := hl.1; omega⟩⟩
                  H.out.ch.d0.2.2.2.2 H.out.ch.row.lt
                have hkp : Keep (fun b => K2.pv.ownBlock = some b) wr w5 := (Keep.of_below hw1).grown hgp (fun k hk => .inl hk)
                have hfin := H.out.pics hkp (fun b hb => HOB.out b hb) hpics
                have hN : List.replicate (k + 1) pic0 = List.replicate k pic0 ++ [pic0] := List.replicate_succ'
                rw [← hN] at hfin
                have HFIN := Lib.hid hfin
                clear hrow hw1 hgp hR hpics hkp hfin hN ho5 hg5 hb5
                go_wp2_with fail
                have hg := HG.out
                go_roundg (3 - (k + 1))
                case measure => omega
                case rel => exact ⟨k + 1, _, by omega, by go_num, HFIN.out⟩
            · have hk3 : k = 3 := by have := HG.out; omega
              subst hk3
              go_wp2_with fail
              go_ret
              exact ⟨cb, K2, rfl, H.out.like rfl rfl rfl rfl rfl rfl⟩
end
end Go.Proofs.YtajnfkmkombajacGreatDoor
namespace Go.Proofs.YtajnfkmkombajacGreatDoor
open Go.RowKit Go.Maps

theorem CS.stake_pics (x : CS) (o b n : Int) : (x.stakeOp o b n).2.cycle = x.cycle ∧ (x.stakeOp o b n).2.pics = x.pics := by
  unfold CS.stakeOp; split
  · exact ⟨rfl, rfl⟩
  · split <;> exact ⟨rfl, rfl⟩
theorem CS.free_pics (x : CS) (o : Int) : (x.freeOp o).2.2.cycle = x.cycle ∧ (x.freeOp o).2.2.pics = x.pics := by
  unfold CS.freeOp; split <;> exact ⟨rfl, rfl⟩

section
variable (W : World) (F : Nat → Prop) (cb : Nat) (K : RChL) (sd : Nat) (x : CS) (Z : List (List Int)) (w : World)
set_option maxRecDepth 8000 in
set_option maxHeartbeats 12000000 in
theorem refc_One (v : Int) (v1 : v ≤ 9223372036854775807) (h : RChGo W F cb K sd x Z w) (hx : x.Inv) (hz : PicsOf x Z) (hs : sd < 18446744073709551616) (hW : x.s.W.length ≤ 8000) (hk : x.k.L.length ≤ 900000) (hcy : x.cycle ≤ 1000000) :
    Calls Tryz.prog 115 #[.pointer (some ⟨cb, 0, none⟩), .int .i64 v] w fun e w' => e = .returned (.int .i64 (x.playOp sd v).1) ∧ ∃ K' Z', RChGo W F cb K' sd (x.playOp sd v).2 Z' w' ∧ PicsOf (x.playOp sd v).2 Z' := by
  by_cases v0 : 0 ≤ v
  case neg =>
    have E := Lib.hid (show x.playOp sd v = (-1, x) from if_pos (by omega))
    have d0 : decide (v < 0) = true := by simp; omega
    have H0 := Lib.hid h; have HZ := Lib.hid hz
    clear h hx hz v0
    go_enter Tryz.func115, Tryz.ntmps115
    go_wp2_with fail
    go_ret
    exact ⟨by rw [E.out]; rfl, by rw [E.out]; exact ⟨K, Z, H0.out, HZ.out⟩⟩
  case pos =>
  have EP : x.playOp sd v = (((x.oneOp sd v).1 : Int), (x.oneOp sd v).2) := if_neg (by omega)
  rw [EP]
  clear EP
  have d0 : decide (v < 0) = false := by simp; omega
  have hN := OneN.of v0
  obtain ⟨E0, E1, E2, E3, E4, E5⟩ := CS.oneOp_parts x sd (v := v) rfl rfl rfl rfl rfl rfl rfl
  have hc1 : 1 + v / 8 / 18 % 2000 = v / 8 / 18 % 2000 + 1 := by omega
  generalize v / 8 / 72 % 5 = nn at *
  generalize v / 8 / 72 = q72 at *
  generalize v / 8 / 18 % 4 = k4 at *
  generalize 1 + v / 8 / 18 % 2000 = N at *
  generalize v / 8 / 18 % 2000 = kk at *
  generalize v / 8 / 18 = k at *
  generalize v / 8 / 6 % 3 = b at *
  generalize v / 8 / 6 = q6 at *
  generalize v / 8 % 6 = o at *
  generalize v / 8 % 8 = r at *
  generalize v / 8 = q at *
  generalize v % 8 = m at *
  have hcy0 := hx.cy
  have hcyw : (Lit.int .i64 x.cycle).wf = true := WalkArith.wf_i64 (by omega)
  have H0 := Lib.hid h
  have HX := Lib.hid hx
  have HZ := Lib.hid hz
  obtain ⟨q1, q2, o1, o2, a1, a2, b1, b2, k1, k2, c1, c2, n1, mm1, mm2, d1, d2, e1, e2, f1, f2, r1, r2, bd⟩ := hN
  obtain ⟨bq, bk0, bk1, b40, b41, bn0, bn1, bb0, bb1, bm0, bm1⟩ := bd
  have nk : kk + 1 = N := hc1.symm
  clear hc1 n1
  have g0 := h.c0; have g1 := h.c1; have g2 := h.c2; have g4 := h.c4
  have HG := Lib.hid (fun wx (k : Below w.heap.size w wx) => show wx.cell? ⟨cb, 1, none⟩ = some (.pointer (some ⟨K.sb, 0, none⟩)) ∧ wx.cell? ⟨cb, 2, none⟩ = some (.pointer (some ⟨K.kb, 0, none⟩)) ∧ wx.cell? ⟨cb, 4, none⟩ = some (.int .i64 x.cycle) from ⟨(h.below k).c1, (h.below k).c2, (h.below k).c4⟩)
  clear h hx hz
  have hm : m = 0 ∨ m = 1 ∨ m = 2 ∨ m = 3 ∨ m = 4 ∨ 5 ≤ m := by omega
  rcases hm with hm | hm | hm | hm | hm | hm
  · have E := Lib.hid (E0 hm)
    subst hm
    clear E0 E1 E2 E3 E4 E5
    go_enter Tryz.func115, Tryz.ntmps115
    go_wp2_with fail
    refine (refp_Move K.pb K.hb x.p o b N _ H0.out.ch.purse).mono ?_
    rintro y w2 ⟨rfl, g⟩
    have H1 := Lib.hid (H0.out.purse g); clear g
    go_wp2_with fail
    go_ret
    exact ⟨by rw [E.out]; rfl, by rw [E.out]; exact ⟨K, Z, H1.out, HZ.out.same rfl rfl⟩⟩
  · have E := Lib.hid (E1 hm)
    subst hm
    clear E0 E1 E2 E3 E4 E5
    go_enter Tryz.func115, Tryz.ntmps115
    go_wp2_with fail
    refine (refc_Stake W F cb K sd x Z _ o b N H0.out).mono ?_
    rintro y w2 ⟨rfl, K2, g⟩
    have H1 := Lib.hid g; clear g
    go_wp2_with fail
    go_ret
    exact ⟨by rw [E.out]; rfl, by rw [E.out]; exact ⟨K2, Z, H1.out, HZ.out.same (CS.stake_pics x o b N).1 (CS.stake_pics x o b N).2⟩⟩
  · have E := Lib.hid (E2 hm)
    subst hm
    clear E0 E1 E2 E3 E4 E5
    go_enter Tryz.func115, Tryz.ntmps115
    go_wp2_with fail
    go_region_held3 (fun wx => wx.cell? ⟨cb, 1, none⟩ = some (.pointer (some ⟨K.sb, 0, none⟩)) ∧ wx.cell? ⟨cb, 2, none⟩ = some (.pointer (some ⟨K.kb, 0, none⟩)) ∧ wx.cell? ⟨cb, 4, none⟩ = some (.int .i64 x.cycle)) (first | exact ⟨H1.out.c1, H1.out.c2, H1.out.c4⟩ | exact HG.out _ ((Below.refl _ _).drewN _) | exact HG.out _ (Below.refl _ _))
      ((go_at_call 70; refine (refs_Leave K.sb K.Fs x.s _ o b N x.cycle (H0.out.drewN 1).ch.st hW).mono ?_; rintro y w2 ⟨rfl, g⟩; have H1 := Lib.hid ((H0.out.drewN 1).stakes g)))
    all_goals
      go_wp2_with fail
      go_ret
      exact ⟨by rw [E.out]; rfl, by rw [E.out]; exact ⟨_, Z, H1.out, HZ.out.same rfl rfl⟩⟩
  · have E := Lib.hid (E3 hm)
    subst hm
    clear E0 E1 E2 E3 E4 E5
    go_enter Tryz.func115, Tryz.ntmps115
    go_wp2_with fail
    refine (refc_Free W F cb K sd x Z _ o H0.out hW).mono ?_
    rintro y w2 ⟨rfl, K2, g⟩
    have H1 := Lib.hid g; clear g
    go_wp2_with fail
    go_ret
    exact ⟨by rw [E.out]; rfl, by rw [E.out]; exact ⟨K2, Z, H1.out, HZ.out.same (CS.free_pics x o).1 (CS.free_pics x o).2⟩⟩
  · have E := Lib.hid (E4 hm)
    subst hm
    clear E0 E1 E2 E3 E4 E5
    have hwq : IntKind.i64.wrap q72 = q72 := IntWalk.i64_in _ ⟨by omega, by omega⟩
    have hsub : IntKind.i64.wrap (x.cycle - k4) = x.cycle - k4 := IntWalk.i64_in _ ⟨by omega, by omega⟩
    have hew : (EV.mk b (x.cycle - k4) nn).wf := ⟨show (Lit.int .i64 b).wf = true from WalkArith.wf_i64 (by omega), show (Lit.int .i64 (x.cycle - k4)).wf = true from WalkArith.wf_i64 (by omega), show (Lit.int .i64 nn).wf = true from WalkArith.wf_i64 (by omega)⟩
    go_enter Tryz.func115, Tryz.ntmps115
    go_wp2_with fail
    go_region_held3 (fun wx => wx.cell? ⟨cb, 1, none⟩ = some (.pointer (some ⟨K.sb, 0, none⟩)) ∧ wx.cell? ⟨cb, 2, none⟩ = some (.pointer (some ⟨K.kb, 0, none⟩)) ∧ wx.cell? ⟨cb, 4, none⟩ = some (.int .i64 x.cycle)) (first | exact ⟨H1.out.c1, H1.out.c2, H1.out.c4⟩ | exact HG.out _ ((Below.refl _ _).drewN _) | exact HG.out _ (Below.refl _ _))
      ((go_at_call 111; refine (ref_CourtAccuse K.kb K.Fk x.k o ⟨b, x.cycle - k4, nn⟩ x.cycle _ (H0.out.drewN 1).ch.ct (by omega)).mono ?_; rintro y w2 ⟨rfl, g⟩; have H1 := Lib.hid ((H0.out.drewN 1).court g)))
    all_goals
      go_wp2_with fail
      go_ret
      exact ⟨by rw [E.out]; rfl, by rw [E.out]; exact ⟨_, Z, H1.out, HZ.out.same rfl rfl⟩⟩
  · have E := Lib.hid (E5 hm)
    have n0 : (m == 0) = false := by simp; omega
    have n1' : (m == 1) = false := by simp; omega
    have n2 : (m == 2) = false := by simp; omega
    have n3 : (m == 3) = false := by simp; omega
    have n4 : (m == 4) = false := by simp; omega
    clear E0 E1 E2 E3 E4 E5 hm
    go_enter Tryz.func115, Tryz.ntmps115
    go_wp2_with fail
    refine (refc_BakeTurn W F cb K sd x Z _ r H0.out HX.out HZ.out hs hW (by omega)).mono ?_
    rintro y w2 ⟨rfl, K2, Z2, g, gz⟩
    have H1 := Lib.hid (And.intro g gz); clear g gz
    go_wp2_with fail
    go_ret
    exact ⟨by rw [E.out]; rfl, by rw [E.out]; exact ⟨K2, Z2, H1.out.1, H1.out.2⟩⟩
end
end Go.Proofs.YtajnfkmkombajacGreatDoor
namespace Go.Proofs.YtajnfkmkombajacGreatDoor
open Go.RowKit Go.Maps

/-- since world w0, among the blocks F: the document's chain that plays a script: what it has answered so far lies in out -/
structure RRun (w0 : World) (F : Nat → Prop) (cb : Nat) (K : RChL) (sd : Nat) (x : CS) (Z : List (List Int)) (out : Value) (ans : List Int) (ao : Option Addr) (len cap : Nat) (zs : List Int) (w : World) : Prop where
  go : RChGo w0 F cb K sd x Z w
  pic : PicsOf x Z
  own : w.ownsRow w0.heap.size 3 1 out ans.length (ans.map (Value.int .i64))
  sep : ∀ g, out.ownBlock = some g → ¬ K.foot cb g
  rd : RdI .i64 w ao len cap zs
  rds : ∀ a, ao = some a → a.block < w0.heap.size ∧ ¬ K.foot cb a.block
section
variable {w0 w w' : World} {F : Nat → Prop} {cb sd len cap : Nat} {K K' : RChL} {x y : CS} {Z Y : List (List Int)} {out : Value} {ans : List Int} {ao : Option Addr} {zs : List Int}
theorem RRun.size (h : RRun w0 F cb K sd x Z out ans ao len cap zs w) : w0.heap.size ≤ w.heap.size := h.go.keep.size
theorem RRun.step (h : RRun w0 F cb K sd x Z out ans ao len cap zs w) (k : RChGo w (K.foot cb) cb K' sd y Y w') (p : PicsOf y Y) : RRun w0 F cb K' sd y Y out ans ao len cap zs w' :=
  ⟨h.go.step k.keep (fun _ hb => hb) k.ch k.foot, p, ownsRow_other h.own (fun g hg => k.keep.block g (h.own.lt g hg).2 (h.sep g hg)), fun g hg hf => by
    rcases k.foot g hf with e | e
    · exact h.sep g hg e
    · have := (h.own.lt g hg).2; omega,
   h.rd.keepX k.keep (fun a ha => (h.rds a ha).2), fun a ha => ⟨(h.rds a ha).1, fun hf => by
    rcases k.foot _ hf with e | e
    · exact (h.rds a ha).2 e
    · have := (h.rds a ha).1; have := h.size; omega⟩⟩
theorem RRun.append {g cp : Nat} {c : Int} {ob : Obj} {w1 : World} (h : RRun w0 F cb K sd x Z out ans ao len cap zs w) (hg : (w.alloc ob).grownBy w1 out.ownBlock) (hor : out.ownBlock = some g ∨ g = w.heap.size + 1)
    (ho : w1.ownsRow w0.heap.size 3 1 (.slice (some ⟨g, 0, none⟩) (ans.length + 1) cp) (ans.length + 1) (ans.map (Value.int .i64) ++ [.int .i64 c])) :
    RRun w0 F cb K sd x Z (.slice (some ⟨g, 0, none⟩) (ans.length + 1) cp) (ans ++ [c]) ao len cap zs w1 := by
  have K1 : Keep (fun b => out.ownBlock = some b) w w1 := ((Keep.refl _ _).alloc ob).grown hg (fun k hk => .inl hk)
  refine ⟨⟨h.go.keep.andThen K1 (fun b hb => .inr (h.own.lt b hb).1), h.go.ch.keep K1 (fun b hb hf => h.sep b hf hb), fun b hb => (h.go.foot b hb).imp id (fun e => ⟨e.1, Nat.lt_of_lt_of_le e.2 K1.size⟩), h.go.Flt⟩, h.pic, ?_, fun g' hg' hf => ?_, h.rd.keepX K1 (fun a ha hb => ?_), h.rds⟩
  · rw [List.length_append, List.map_append]; exact ho
  · have : g' = g := by simpa [Value.ownBlock] using hg'.symm
    subst this
    rcases hor with e | e
    · exact h.sep g' e hf
    · have := h.go.ch.footlt g' hf; omega
  · have := (h.rds a ha).1; have := (h.own.lt _ hb).1; omega
end

set_option maxRecDepth 8000 in
set_option maxHeartbeats 1000000 in
theorem refc_Run (cb : Nat) (K : RChL) (sd : Nat) (x : CS) (Z : List (List Int)) (w : World) (t : Nat) (ao : Option Addr) (cap : Nat) (zs : List Int) (h : RChainL cb K sd x Z w) (hz : PicsOf x Z) (hq : PlayQ t x) (R : RdI .i64 w ao zs.length cap zs)
    (hwf : ∀ v ∈ zs, v ≤ 9223372036854775807) (ha : ∀ a, ao = some a → a.block < w.heap.size ∧ ¬ K.foot cb a.block) (hl : t + zs.length ≤ 600) (hs : sd < 18446744073709551616) :
    Calls Tryz.prog 54 #[.pointer (some ⟨cb, 0, none⟩), .slice ao zs.length cap] w fun e w' => ∃ out K' Z', e = .returned out ∧ RRun w (K.foot cb) cb K' sd (x.runS sd zs) Z' out (x.runA sd zs) ao zs.length cap zs w' := by
  obtain ⟨i0, hi, hz0, hz1, hz2⟩ := info_parts Tryz.infoInt
  have HQ := Lib.hid (fun j (hj : j ≤ zs.length) => show PlayQ (t + j) (x.runS sd (zs.take j)) by
    have := PlayQ.run (x := x) sd (zs.take j) hq
    rw [List.length_take, Nat.min_eq_left hj] at this; exact this)
  have HST := Lib.hid (fun j v (hv : zs[j]? = some v) => show x.runS sd (zs.take (j + 1)) = ((x.runS sd (zs.take j)).playOp sd v).2 ∧ x.runA sd (zs.take (j + 1)) = x.runA sd (zs.take j) ++ [((x.runS sd (zs.take j)).playOp sd v).1] by
    rw [List.take_add_one, hv]; exact ⟨CS.runS_snoc _ _ _ _, CS.runA_snoc _ _ _ _⟩)
  have HLA := Lib.hid (fun j (hj : j ≤ zs.length) => show (x.runA sd (zs.take j)).length = j by rw [CS.runA_len, List.length_take, Nat.min_eq_left hj])
  have HP0 := Lib.hid (show RRun w (K.foot cb) cb K sd (x.runS sd (zs.take 0)) Z (.slice none 0 0) (x.runA sd (zs.take 0)) ao zs.length cap zs w from ⟨RChGo.start h (fun _ hb => hb) h.footlt, hz, World.ownsRow_nil _ _ _ _, (fun g hg => by cases hg), R, ha⟩)
  have HWF := Lib.hid hwf
  have hlc := R.lc
  clear h hq R ha hwf hz
  obtain ⟨len, hlen⟩ : ∃ len, zs.length = len := ⟨_, rfl⟩
  rw [hlen] at HP0 HQ HLA hlc ⊢
  have HZ := Lib.hid hlen
  have hl6 : len ≤ 600 := by omega
  have HLT := Lib.hid (show t + len ≤ 600 by omega)
  clear hl hlen
  go_enter Tryz.func54, Tryz.ntmps54
  go_wp2_with fail
  go_loopg [6, 5] len (fun g i out wr => ∃ (j : Nat) (K' : RChL) (Z' : List (List Int)), g + j = len ∧ i = .int .i64 j ∧ RRun w (K.foot cb) cb K' sd (x.runS sd (zs.take j)) Z' out (x.runA sd (zs.take j)) ao len cap zs wr)
  case atStart => exact ⟨0, K, Z, rfl, rfl, HP0.out⟩
  case round =>
    clear HP0
    obtain ⟨j, K1, Z1, hg, rfl, hP⟩ := hrel
    have HG := Lib.hid hg; have HP := Lib.hid hP; clear hg hP
    by_cases hlt : j < len
    · obtain ⟨b, off, rfl, hcell⟩ := HP.out.rd.cells j hlt
      obtain ⟨v, hv⟩ : ∃ v, zs[j]? = some v := ⟨_, List.getElem?_eq_getElem (by have := HZ.out; omega)⟩
      rw [List.getD_eq_getElem?_getD, hv] at hcell
      simp only [Option.getD_some] at hcell
      have hvm := HWF.out v (List.mem_of_getElem? hv)
      have HV := Lib.hid (HST.out j v hv)
      have HQJ := Lib.hid (HQ.out j (by omega))
      have hla := HLA.out j (by omega)
      have hj3 : decide ((j : Int) < 3000) = true := by simp; omega
      clear hv
      generalize x.runS sd (zs.take j) = y at *
      generalize x.runA sd (zs.take j) = ans at *
      have HA := Lib.hid hla; clear hla
      have hqw := HQJ.out.w; have hqk := HQJ.out.k; have hqc := HQJ.out.cy
      have hlt6 := HLT.out
      have HO := Lib.hid (refc_One wr (K1.foot cb) cb K1 sd y Z1 wr v hvm (RChGo.start HP.out.go.ch (fun _ hb => hb) HP.out.go.ch.footlt) HQJ.out.inv HP.out.pic hs (by omega) (by omega) (by omega))
      clear hqw hqk hqc hlt6
      generalize (y.playOp sd v).1 = c at *
      generalize (y.playOp sd v).2 = z at *
      go_wp2_with fail
      refine HO.out.mono ?_
      rintro e w2 ⟨rfl, K2, Z2, g2, z2⟩
      have HP2 := Lib.hid (HP.out.step g2 z2); clear g2 z2
      go_wp2_with (at_builtin; refine wpList_append_lies _ rfl (.tmp 24) (.tmp 26) 38 rfl w.heap.size 3 i0 (.int .i64 0) 1 8 Tryz.underlying38 hi hz0 hz1 hz2 rfl (by decide) u5 ans.length (ans.map (Value.int .i64)) rfl (HP2.out.own.alloc _) ⟨_, 0, none⟩ 1 1 [.int .i64 c] rfl rfl (cell_one_at _ _ _ _ (by simp)) (ints_oneCell _ [_]) (by decide) (by have := HA.out; unfold maxLen; omega) (by have := HA.out; omega) (by have := HP2.out.size; simp; omega) _ rfl ?_)
      intro g cp w4 ho2 hg2 hor hgl
      have HP4 := Lib.hid (HP2.out.append (c := c) hg2 (by simpa using hor) ho2)
      clear ho2 hg2 hor hgl
      go_wp2_with fail
      have hg := HG.out
      go_roundg (len - (j + 1))
      case measure => omega
      case rel => exact ⟨j + 1, K2, Z2, by omega, by go_num, by rw [HV.out.1, HV.out.2]; exact HP4.out⟩
    · have hjl : j = len := by have := HG.out; omega
      subst hjl
      have hz := HZ.out
      have hP := HP.out
      rw [List.take_of_length_le (by omega)] at hP
      have HF := Lib.hid hP
      clear hP hz HP
      go_wp2_with fail
      go_ret
      exact ⟨_, K1, Z1, rfl, HF.out⟩
end Go.Proofs.YtajnfkmkombajacGreatDoor
namespace Go.Proofs.YtajnfkmkombajacGreatDoor
open Go.RowKit

theorem law3_coded (A : Nat → Addr) (c : Nat) (hc : c ≤ 10) (w : World) (hS : Sents A w) :
    Calls Tryz.prog 46 #[ev A c, .int .i64 c] w fun e w' => e = .returned (.bool true) ∧ Below w.heap.size w w' := by
  have HS := Lib.hid hS; clear hS
  by_cases h0 : c = 0
  · subst h0
    simp only [ev_nil, Int.natCast_zero]
    go_enter Tryz.func46, Tryz.ntmps46
    go_wp2_with fail
    refine (code_nil _).mono ?_
    rintro e w' ⟨rfl, hb⟩
    go_wp2
    go_ret
    exact ⟨rfl, hb⟩
  · have he := ev_some A h0
    rw [he]
    have hcc : ((c : Int) == (c : Int)) = true := beq_self_eq_true _
    clear he
    go_enter Tryz.func46, Tryz.ntmps46
    go_wp2_with fail
    refine (code_bare A c (by omega) hc _ HS.out).mono ?_
    rintro e w' ⟨rfl, hb⟩
    go_wp2
    go_ret
    exact ⟨rfl, hb⟩
end Go.Proofs.YtajnfkmkombajacGreatDoor
namespace Go.Proofs.YtajnfkmkombajacGreatDoor
open Go.RowKit Go.Maps

/-- both chains, new since W, apart: x in the law's, y in the document's -/
structure CTwo (W : World) (cb : Nat) (K : ChL) (n : Nat) (rb : Nat) (R : RChL) (sd : Nat) (x y : CS) (Z : List (List Int)) (w : World) : Prop where
  law : CN W cb K n sd x w
  doc : RCN W rb R sd y Z w
  pic : PicsOf y Z
  dis : ∀ b, K.foot cb b → ¬ R.foot rb b
section
variable {W w w' : World} {cb n m rb sd : Nat} {K K' : ChL} {R R' : RChL} {x y z : CS} {Z Z' : List (List Int)} {G : Nat → Prop}
theorem CTwo.below (h : CTwo W cb K n rb R sd x y Z w) : Below W.heap.size W w := h.law.below
theorem CTwo.next (h : CTwo W cb K n rb R sd x y Z w) (k : Below w.heap.size w w') : CTwo W cb K n rb R sd x y Z w' := ⟨h.law.next k, h.doc.next k, h.pic, h.dis⟩
theorem CTwo.drewN (h : CTwo W cb K n rb R sd x y Z w) (j : Nat) : CTwo W cb K n rb R sd x y Z (w.drewN j) := h.next ((Below.refl _ _).drewN j)
theorem CTwo.dr (h : CTwo W cb K n rb R sd x y Z w) (k : Dr w w') : CTwo W cb K n rb R sd x y Z w' := by obtain ⟨j, rfl⟩ := k; exact h.drewN j
theorem CTwo.lawed (h : CTwo W cb K n rb R sd x y Z w) (k : ChGo w (K.foot cb) cb K' m sd z w') : CTwo W cb K' m rb R sd z y Z w' :=
  ⟨h.law.of k, h.doc.other k.keep h.law.new (fun c hc hf => h.dis c hf hc), h.pic, fun c hc hb => by
    rcases k.foot c hc with e | e
    · exact h.dis c e hb
    · have := h.doc.ch.footlt c hb; omega⟩
theorem CTwo.doced (h : CTwo W cb K n rb R sd x y Z w) (k : RChGo w (R.foot rb) rb R' sd z Z' w') (p : PicsOf z Z') : CTwo W cb K n rb R' sd x z Z' w' :=
  ⟨h.law.other k.keep h.doc.new h.dis, h.doc.of k, p, fun c hc hb => by
    rcases k.foot c hb with e | e
    · exact h.dis c hc e
    · have := h.law.ch.footlt c hc; omega⟩
theorem CTwo.lgo (h : CTwo W cb K n rb R sd x y Z w) : ChGo w (K.foot cb) cb K n sd x w := h.law.go
theorem CTwo.dgo (h : CTwo W cb K n rb R sd x y Z w) : RChGo w (R.foot rb) rb R sd y Z w := h.doc.go
theorem ctwo_new {w0 w1 w2 : World} (g1 : CN w0 cb K n sd CS.new w1) (g2 : RChGo w1 noF rb R sd CS.new [pic0, pic0, pic0] w2) : CTwo w0 cb K n rb R sd CS.new CS.new [pic0, pic0, pic0] w2 := by
  have b2 : Below w1.heap.size w1 w2 := Keep.after (Below.refl _ _) g2.keep (fun i hi => hi.elim)
  have nw : ∀ b, R.foot rb b → w1.heap.size ≤ b := fun b hb => (g2.foot b hb).elim (fun e => e.elim) (·.1)
  exact ⟨g1.next b2, ⟨btrans g1.below b2, g2.ch, fun b hb => Nat.le_trans g1.below.size (nw b hb)⟩, PicsOf.new, fun b hb hr => by have := g1.ch.footlt b hb; have := nw b hr; omega⟩
end
end Go.Proofs.YtajnfkmkombajacGreatDoor
namespace Go.Proofs.YtajnfkmkombajacGreatDoor
open Go.RowKit Go.Maps

section
variable (A : Nat → Addr) (S : List Nat) (W : World) (F : Nat → Prop) (cb : Nat) (K : ChL) (n sd : Nat) (x : CS) (w : World)
theorem chain_Bonus (h : ChGo W F cb K n sd x w) : Calls Tryz.prog 39 #[.pointer (some ⟨cb, 0, none⟩)] w fun e w' => e = .returned (.int .i64 x.bonus) ∧ w = w' := by
  have c := h.c6
  clear h
  go_enter Tryz.func39, Tryz.ntmps39
  go_wp2
  go_ret
  exact ⟨rfl, rfl⟩

/-- behind the call's own box of the act -/
structure DoB (w : World) (a : ActC) (w1 : World) : Prop where
  b0 : w1.cell? ⟨w.heap.size, 0, none⟩ = some (.string a.kind)
  b1 : w1.cell? ⟨w.heap.size, 1, none⟩ = some (.int .i64 a.o)
  b2 : w1.cell? ⟨w.heap.size, 2, none⟩ = some (.int .i64 a.t)
  b3 : w1.cell? ⟨w.heap.size, 3, none⟩ = some (.int .i64 a.b)
  b4 : w1.cell? ⟨w.heap.size, 4, none⟩ = some (.int .i64 a.n)
  b5 : w1.cell? ⟨w.heap.size, 5, none⟩ = some (.int .i64 a.round)
  b6 : w1.cell? ⟨w.heap.size, 6, none⟩ = some (.int .i64 a.e.b)
  b7 : w1.cell? ⟨w.heap.size, 7, none⟩ = some (.int .i64 a.e.c)
  b8 : w1.cell? ⟨w.heap.size, 8, none⟩ = some (.int .i64 a.e.n)
theorem DoB.of (w : World) (a : ActC) (t : TypeId) : DoB w a (w.alloc (.cells #[.string a.kind, .int .i64 a.o, .int .i64 a.t, .int .i64 a.b, .int .i64 a.n, .int .i64 a.round, .int .i64 a.e.b, .int .i64 a.e.c, .int .i64 a.e.n] t)) := by
  have hn := heap_alloc_new w (.cells #[.string a.kind, .int .i64 a.o, .int .i64 a.t, .int .i64 a.b, .int .i64 a.n, .int .i64 a.round, .int .i64 a.e.b, .int .i64 a.e.c, .int .i64 a.e.n] t)
  refine ⟨?_, ?_, ?_, ?_, ?_, ?_, ?_, ?_, ?_⟩
  all_goals (unfold World.cell?; rw [hn]; simp)

set_option maxRecDepth 8000 in
set_option maxHeartbeats 2000000 in
theorem law_do (a : ActC) (h : ChGo W F cb K n sd x w) (hx : x.Inv) (hs : sd < 18446744073709551616) (hE : Errs A S W) (hFE : ∀ c ∈ S, ¬ F (gE c)) (hS : ∀ c ∈ [2, 3, 4, 5, 6, 7, 8, 9, 10], c ∈ S) (hW : x.s.W.length ≤ 8000) (hn : n ≤ 900000) (hk : x.k.L.length ≤ 900000) (ha : a.wf) (hcy : (Lit.int .i64 x.cycle).wf = true) :
    Calls Tryz.prog 33 #[.pointer (some ⟨cb, 0, none⟩), .agg a.enc.toArray] w fun e w' => e = .returned (.int .i64 (x.doOp sd a).1) ∧ ∃ K' n', n' ≤ n + 2 + x.s.W.length ∧ ChGo W F cb K' n' sd (x.doOp sd a).2 w' := by
  have m2 := hS 2 (by decide); have m3 := hS 3 (by decide); have m4 := hS 4 (by decide); have m5 := hS 5 (by decide); have m6 := hS 6 (by decide); have m7 := hS 7 (by decide); have m8 := hS 8 (by decide); have m9 := hS 9 (by decide); have m10 := hS 10 (by decide)
  have HD := Lib.hid (CS.doOp_eq x sd a)
  have HX := Lib.hid hx
  have HEE := Lib.hid (And.intro hE hFE)
  have hbx := DoB.of w a 48
  have hgo := h.below ((Below.refl _ _).alloc (Nat.le_refl _) (.cells #[.string a.kind, .int .i64 a.o, .int .i64 a.t, .int .i64 a.b, .int .i64 a.n, .int .i64 a.round, .int .i64 a.e.b, .int .i64 a.e.c, .int .i64 a.e.n] 48))
  have hew := ha.2.2.2.2.2.2
  clear h hx hE hFE ha hS
  obtain ⟨s, o, t, b, N, r, e⟩ := a
  unfold ActC.enc
  simp only at hbx hgo HD hew ⊢
  obtain ⟨wb, hwb⟩ : ∃ wb, w.alloc (.cells #[.string s, .int .i64 o, .int .i64 t, .int .i64 b, .int .i64 N, .int .i64 r, .int .i64 e.b, .int .i64 e.c, .int .i64 e.n] 48) = wb := ⟨_, rfl⟩
  rw [hwb] at hbx hgo
  have H0 := Lib.hid hgo; clear hgo
  obtain ⟨c0, c1, c2, c3, c4, c5, c6, c7, c8⟩ := hbx
  simp only at c0 c1 c2 c3 c4 c5 c6 c7 c8
  generalize x.doOp sd ⟨s, o, t, b, N, r, e⟩ = res at *
  go_enter Tryz.func33, Tryz.ntmps33
  by_cases m20 : (s.toList == [112, 97, 121]) = true
  · rw [if_pos m20] at HD
    go_wp2_with fail
    refine (chain_Pay A S W F cb K n sd x _ o t N H0.out HEE.out.1 HEE.out.2 m2 m6).mono ?_
    rintro y w2 ⟨rfl, g⟩
    have H1 := Lib.hid g; clear g
    go_wp2_with fail
    go_ret
    exact ⟨by rw [HD.out]; rfl, by rw [HD.out]; exact ⟨K, n, by omega, H1.out⟩⟩
  · rw [if_neg m20] at HD
    have n20 : (s.toList == [112, 97, 121]) = false := by simpa using m20
    clear m20
    by_cases m21 : (s.toList == [115, 116, 97, 107, 101]) = true
    · rw [if_pos m21] at HD
      go_wp2_with fail
      refine (chain_Stake A S W F cb K n sd x _ o b N H0.out HEE.out.1 HEE.out.2 m2 m4 m6 m7 m8 (by unfold maxLen; omega)).mono ?_
      rintro y w2 ⟨rfl, K2, g⟩
      have H1 := Lib.hid g; clear g
      go_wp2_with fail
      go_ret
      exact ⟨by rw [HD.out]; rfl, by rw [HD.out]; exact ⟨K2, n + 1, by omega, H1.out⟩⟩
    · rw [if_neg m21] at HD
      have n21 : (s.toList == [115, 116, 97, 107, 101]) = false := by simpa using m21
      clear m21
      by_cases m22 : (s.toList == [117, 110, 115, 116, 97, 107, 101]) = true
      · rw [if_pos m22] at HD
        go_wp2_with fail
        refine (chain_Unstake A S W F cb K n sd x _ o b N H0.out HEE.out.1 HEE.out.2 m2 m4 m6 m7 m8 (by unfold maxLen; omega) hcy).mono ?_
        rintro y w2 ⟨rfl, K2, g⟩
        have H1 := Lib.hid g; clear g
        go_wp2_with fail
        go_ret
        exact ⟨by rw [HD.out]; rfl, by rw [HD.out]; exact ⟨K2, n + 2, by omega, H1.out⟩⟩
      · rw [if_neg m22] at HD
        have n22 : (s.toList == [117, 110, 115, 116, 97, 107, 101]) = false := by simpa using m22
        clear m22
        by_cases m23 : (s.toList == [102, 114, 101, 101]) = true
        · rw [if_pos m23] at HD
          go_wp2_with fail
          refine (chain_Free A S W F cb K n sd x _ o H0.out HX.out HEE.out.1 HEE.out.2 m2 m4 m6 hW (by unfold maxLen; omega)).mono ?_
          rintro y w2 ⟨rfl, K2, g⟩
          have H1 := Lib.hid g; clear g
          go_wp2_with fail
          go_ret
          exact ⟨by rw [HD.out]; rfl, by rw [HD.out]; exact ⟨K2, _, by omega, H1.out⟩⟩
        · rw [if_neg m23] at HD
          have n23 : (s.toList == [102, 114, 101, 101]) = false := by simpa using m23
          clear m23
          by_cases m24 : (s.toList == [97, 99, 99, 117, 115, 101]) = true
          · rw [if_pos m24] at HD
            go_wp2_with fail
            refine (chain_Accuse A S W F cb K n sd x _ o e H0.out HEE.out.1 HEE.out.2 m2 m5 m10 hew (by omega) (by omega)).mono ?_
            rintro y w2 ⟨rfl, K2, g⟩
            have H1 := Lib.hid g; clear g
            go_wp2_with fail
            go_ret
            exact ⟨by rw [HD.out]; rfl, by rw [HD.out]; exact ⟨K2, n + 1, by omega, H1.out⟩⟩
          · rw [if_neg m24] at HD
            have n24 : (s.toList == [97, 99, 99, 117, 115, 101]) = false := by simpa using m24
            clear m24
            by_cases m25 : (s.toList == [98, 97, 107, 101]) = true
            · rw [if_pos m25] at HD
              go_wp2_with fail
              refine (chain_Bake A S W F cb K n sd x _ b r H0.out HX.out hs HEE.out.1 HEE.out.2 m2 m3 m4 m6 m9 hW (by omega) (by omega)).mono ?_
              rintro y w2 ⟨rfl, K2, g⟩
              have H1 := Lib.hid g; clear g
              go_wp2_with fail
              go_ret
              exact ⟨by rw [HD.out]; rfl, by rw [HD.out]; exact ⟨K2, n + 1, by omega, H1.out⟩⟩
            · rw [if_neg m25] at HD
              have n25 : (s.toList == [98, 97, 107, 101]) = false := by simpa using m25
              clear m25
              go_wp2_with fail
              refine (law_bakeTurn A S W F cb K n sd x _ r H0.out HX.out hs HEE.out.1 HEE.out.2 m2 m3 m4 m6 m9 hW (by omega) (by omega)).mono ?_
              rintro y w2 ⟨rfl, K2, g⟩
              have H1 := Lib.hid g; clear g
              go_wp2_with fail
              go_ret
              exact ⟨by rw [HD.out]; rfl, by rw [HD.out]; exact ⟨K2, n + 1, by omega, H1.out⟩⟩
end
end Go.Proofs.YtajnfkmkombajacGreatDoor
