/-
  The document's chain: how it begins.
  The document's chain: one number of a play.
-/
import Derived.Test.YtajnfkmkombajaaGreatDoorQSP33
import Derived.Test.YtajnfkmkombajaaGreatDoorQSP20
import Derived.Test.YtajnfkmkombajaaGreatDoorQSP26
import Derived.Test.YtajnfkmkombajaaGreatDoorQSP21
set_option linter.unusedVariables false
set_option linter.unusedSimpArgs false
set_option linter.unusedVariables false
namespace Go.Proofs.YtajnfkmkombajaaGreatDoor
open Go.RowKit Go.Maps
theorem rchain_begin {w w1 w2 : World} {pb gb sb sd : Nat} (b1 : Below w.heap.size w w1) (hpb : w.heap.size ≤ pb) (hhb : w.heap.size ≤ gb) (hp : RPurseAt pb gb PS.new w1) (b2 : Below w1.heap.size w1 w2) (hs : RStAt sb (fun b => w1.heap.size ≤ b ∧ b < w2.heap.size) SS.new w2) :
   RChGo w noF (w2.heap.size + 1) ⟨pb, gb, sb, w2.heap.size, fun b => w1.heap.size ≤ b ∧ b < w2.heap.size, fun b => b = w2.heap.size, noF, .slice none 0 0⟩ sd ⟨PS.new, SS.new, KS.new, 0, 0, 0, []⟩ []
     ((w2.alloc (.cells #[.slice none 0 0, .int .i64 0] 47)).alloc (.cells #[.pointer (some ⟨pb, 0, none⟩), .pointer (some ⟨sb, 0, none⟩), .pointer (some ⟨w2.heap.size, 0, none⟩), .int .u64 sd, .int .i64 0, .int .i64 0, .int .i64 0, .slice none 0 0] 50)) := by
 obtain ⟨w3, hw3⟩ : ∃ w3, w2.alloc (.cells #[.slice none 0 0, .int .i64 0] 47) = w3 := ⟨_, rfl⟩
 have hz3 : w3.heap.size = w2.heap.size + 1 := by rw [← hw3]; simp
 have b3 : Below w2.heap.size w2 w3 := by rw [← hw3]; exact (Below.refl _ _).alloc (Nat.le_refl _) _
 have rk : RowAt w2.heap.size 47 [.slice none 0 0, .int .i64 0] w3 := by rw [← hw3]; exact RowAt.new _ _ _
 rw [hw3]
 have ba : ∀ ob, Below w3.heap.size w3 (w3.alloc ob) := fun ob => (Below.refl _ _).alloc (Nat.le_refl _) _
 have q1 := hp.two (.inl rfl)
 have q2 := hp.two (.inr rfl)
 have z1 := b1.size
 have z2 := b2.size
 have hk : RCourtAt w2.heap.size (fun b => b = w2.heap.size) KS.new w3 := ⟨.slice none 0 0, ⟨rk, ⟨rfl, .inl ⟨rfl, rfl⟩⟩, (fun e => by cases e), Nat.le_refl _⟩, rfl, (fun g hg => by cases hg), fun b hb => by rw [hb, hz3]; exact Nat.lt_succ_self _⟩
 have row := RowAt.new w3 50 [.pointer (some ⟨pb, 0, none⟩), .pointer (some ⟨sb, 0, none⟩), .pointer (some ⟨w2.heap.size, 0, none⟩), .int .u64 sd, .int .i64 0, .int .i64 0, .int .i64 0, .slice none 0 0]
 rw [hz3] at row
 refine ⟨Keep.of_below (btrans (btrans b1 (btrans b2 b3)) (ba _)), ⟨row, ?_, (hs.below b3).below (ba _), hk.below (ba _), ⟨⟨[], OwnSl.nil _ _ _, rfl, fun i v z hv => by simp at hv⟩, fun g hg => by cases hg⟩, fun b hb => hb.elim, ⟨?_, ?_, ?_, ?_, id⟩, fun b hb => ⟨?_, ?_, id⟩, fun b hb => ⟨?_, id⟩, fun b hb => id⟩, fun b hb => .inr ?_, fun b hb => hb.elim⟩
 · exact ((hp.keep (F := noF) (Keep.of_below b2) id id).keep (F := noF) (Keep.of_below b3) id id).keep (F := noF) (Keep.of_below (ba _)) id id
 · show w2.heap.size + 1 ≠ pb; omega
 · show w2.heap.size + 1 ≠ gb; omega
 · show ¬ (w1.heap.size ≤ w2.heap.size + 1 ∧ w2.heap.size + 1 < w2.heap.size); omega
 · show ¬ (w2.heap.size + 1 = w2.heap.size); omega
 · show ¬ (w1.heap.size ≤ b ∧ b < w2.heap.size)
   have : b = pb ∨ b = gb := hb
   omega
 · show ¬ (b = w2.heap.size)
   have : b = pb ∨ b = gb := hb
   omega
 · show ¬ (b = w2.heap.size)
   have : w1.heap.size ≤ b ∧ b < w2.heap.size := hb
   omega
 · have e : ∀ ob, (w3.alloc ob).heap.size = w2.heap.size + 2 := fun ob => by simp [hz3]
   rw [e]
   rcases hb with hb | hb | hb | hb | hb | hb
   · omega
   · have : b = pb := hb
     omega
   · have : b = gb := hb
     omega
   · have : w1.heap.size ≤ b ∧ b < w2.heap.size := hb
     omega
   · have : b = w2.heap.size := hb
     omega
   · exact hb.elim
theorem first_parts {k : Nat} (h : k < 3) : ∃ s, (firstS k).regOp k = (0, s) ∧ s.joinOp k k 1000 = (0, firstS (k + 1)) ∧ (firstP k).outOp k 1000 = (0, firstP (k + 1)) := by
 match k, h with
 | 0, _ => exact ⟨_, rfl, rfl, rfl⟩
 | 1, _ => exact ⟨_, rfl, rfl, rfl⟩
 | 2, _ => exact ⟨_, rfl, rfl, rfl⟩
section
variable (sd : Nat) (w : World)
set_option maxRecDepth 8000 in
set_option maxHeartbeats 2000000 in
theorem refc_New : Calls Tryz.prog 5 #[.int .u64 sd] w fun e w' => ∃ cb K, e = .returned (.pointer (some ⟨cb, 0, none⟩)) ∧ RChGo w noF cb K sd CS.new [pic0, pic0, pic0] w' := by
 go_enter Tryz.func5, Tryz.ntmps5
 go_wp2_with fail
 refine (refp_New _).mono ?_
 rintro e w1 ⟨pb, hb, rfl, b1, hpb, hhb, hp⟩
 go_wp2_with fail
 refine (refs_New _).mono ?_
 rintro e w2 ⟨sb, rfl, b2, hs⟩
 have H0 := Lib.hid (rchain_begin (sd := sd) b1 hpb hhb hp b2 hs)
 clear b1 hp b2 hs hpb hhb
 generalize hK0 : (⟨pb, hb, sb, w2.heap.size, fun b => w1.heap.size ≤ b ∧ b < w2.heap.size, fun b => b = w2.heap.size, noF, .slice none 0 0⟩ : RChL) = K0 at H0
 clear hK0
 go_wp2_with fail
 generalize hcb : w2.heap.size + 1 = cb at *
 clear hcb
 go_loopg [4] 6 (fun g c wr => ∃ k : Nat, g + k = 6 ∧ c = .int .i64 k ∧ RChGo w noF cb K0 sd ⟨PS.first k, SS.new, KS.new, 0, 0, 0, []⟩ [] wr)
 case atStart => exact ⟨0, rfl, rfl, H0.out⟩
 case round =>
   clear H0
   obtain ⟨k, hg, rfl, hh⟩ := hrel
   have HG := Lib.hid hg; have H := Lib.hid hh; clear hg hh
   by_cases hk : k < 6
   · have c0 := H.out.c0
     have HST := Lib.hid (PS.first_step hk)
     go_wp2_with fail
     refine (refp_Mint K0.pb K0.hb (PS.first k) k 10000 _ H.out.ch.purse).mono ?_
     rintro e wz ⟨rfl, ka⟩
     rw [HST.out] at ka ⊢
     have H1 := Lib.hid (H.out.purse ka); clear ka
     go_wp2_with fail
     have hg := HG.out
     go_roundg (6 - (k + 1))
     case measure => omega
     case rel => exact ⟨k + 1, by omega, by go_num, H1.out⟩
   · have hk6 : k = 6 := by have := HG.out; omega
     subst hk6
     have H0 := Lib.hid (show RChGo w noF cb K0 sd (firstC 0 []) [] wr from H.out)
     clear H HG hk
     go_wp2_with fail
     rename World => wa
     go_loopg [5] 3 (fun g c wr => ∃ (k : Nat) (K' : RChL), g + k = 3 ∧ c = .int .i64 k ∧ RChGo w noF cb K' sd (firstC k []) [] wr)
     case atStart => exact ⟨0, K0, rfl, rfl, H0.out⟩
     case round =>
       clear H0
       obtain ⟨k, K1, hg, rfl, hh⟩ := hrel
       have HG := Lib.hid hg; have H := Lib.hid hh; clear hg hh
       by_cases hk : k < 3
       · have c1 := H.out.c1
         obtain ⟨s, e1, e2, e3⟩ := first_parts hk
         have HE1 := Lib.hid e1; have HE2 := Lib.hid e2; have HE3 := Lib.hid e3; clear e1 e2 e3
         go_wp2_with fail
         refine (refs_Register K1.sb K1.Fs (firstS k) _ k H.out.ch.st).mono ?_
         rintro e wz ⟨rfl, ka⟩
         rw [HE1.out] at ka ⊢
         have H1 := Lib.hid (show RChGo w noF cb (K1.withS _ wz) sd ⟨firstP k, s, KS.new, 0, 0, 0, []⟩ [] wz from H.out.stakes ka); clear ka c1
         have d0 := H1.out.c0
         go_wp2_with fail
         refine (refp_Out K1.pb K1.hb (firstP k) k 1000 _ H1.out.ch.purse).mono ?_
         rintro e wy ⟨rfl, ka⟩
         rw [HE3.out] at ka ⊢
         have H2 := Lib.hid (H1.out.purse ka); clear ka d0
         have d1 := H2.out.c1
         go_wp2_with fail
         refine (refs_Join K1.sb _ s _ k k 1000 H2.out.ch.st).mono ?_
         rintro e wx ⟨rfl, ka⟩
         rw [HE2.out] at ka ⊢
         have H3 := Lib.hid (H2.out.stakes ka); clear ka d1
         go_wp2_with fail
         have hg := HG.out
         go_roundg (3 - (k + 1))
         case measure => omega
         case rel => exact ⟨k + 1, _, by omega, by go_num, H3.out⟩
       · have hk3 : k = 3 := by have := HG.out; omega
         subst hk3
         have H0 := Lib.hid (show RChGo w noF cb K1 sd (firstC 3 []) (List.replicate 0 pic0) wr from H.out)
         clear H HG hk
         go_wp2_with fail
         go_loopg [6] 3 (fun g c wr => ∃ (k : Nat) (K' : RChL), g + k = 3 ∧ c = .int .i64 k ∧ RChGo w noF cb K' sd (firstC 3 []) (List.replicate k pic0) wr)
         case atStart => exact ⟨0, K1, rfl, rfl, H0.out⟩
         case round =>
           clear H0
           obtain ⟨k, K2, hg, rfl, hh⟩ := hrel
           have HG := Lib.hid hg; have H := Lib.hid hh; clear hg hh
           by_cases hk : k < 3
           · obtain ⟨vs, o1, o2, o3⟩ := H.out.ch.pics.own
             have oblk := H.out.ch.pics.blk
             obtain ⟨i0, hi, hz0, hz1, hz2⟩ := info_parts infoSl
             obtain ⟨va, vc, hv, hvc, hvm⟩ := o1.shape
             have hlen : vs.length = k := by rw [o2]; simp
             have HPI := Lib.hid (fun wx (hb : Below wr.heap.size wr wx) => refs_PictureOf K2.sb K2.Fs (firstC 3 []).s wx (H.out.below hb).ch.st)
             have HPQ := Lib.hid (first_picture [])
             have HF := Lib.hid (show ∀ wx, Below wr.heap.size wr wx → wx.cell? ⟨cb, 1, none⟩ = some (.pointer (some ⟨K2.sb, 0, none⟩)) ∧ wx.cell? ⟨cb, 7, none⟩ = some (.slice va k vc) ∧ (∀ ob, (wx.alloc ob).cell? ⟨cb, 7, none⟩ = some (.slice va k vc)) ∧ OwnSl 0 28 (.slice va k vc) vs wx from fun wx hb => by
               have h1 := H.out.below hb
               have hr := h1.ch.row
               have e : K2.pv = .slice va k vc := by rw [hv, hlen]
               refine ⟨h1.c1, by rw [← e]; exact h1.c7, fun ob => by rw [← e]; exact (hr.alloc ob).cell 7, ?_⟩
               rw [← e]
               exact o1.keep (Keep.of_below (F := fun _ => False) hb) (fun _ _ => id))
             have HO3 := Lib.hid o3; have HOB := Lib.hid oblk
             have HV := Lib.hid (show K2.pv = .slice va k vc by rw [hv, hlen])
             have HLN := Lib.hid hlen
             obtain ⟨f1, f7, f7a, -⟩ := HF.out wr (Below.refl _ _)
             have hcap : vc ≤ maxLen := hvm
             have HS := Lib.hid (show ∀ (w2 : World) (ob : Obj) (w5 : World), Below wr.heap.size wr w2 → (w2.alloc ob).grownBy w5 (Value.slice va k vc).ownBlock → w5.cell? ⟨cb, 7, none⟩ = some (.slice va k vc) ∧ w5.frozen? ⟨cb, 7, none⟩ = false from fun w2 ob w5 hb hg => by
               have h1 := H.out.below hb
               have hr : RowAt cb 50 (rchainVs K2 sd (firstC 3 [])) w5 := h1.ch.row.keep (((Keep.refl (fun b => K2.pv.ownBlock = some b) w2).alloc ob).grown hg (fun j hj => .inl (by rw [HV.out]; exact hj))) (fun e => H.out.ch.d0.2.2.2.2 (HOB.out _ e))
               have e : K2.pv = .slice va k vc := HV.out
               refine ⟨?_, hr.frozen 7⟩
               rw [← e]; exact hr.cell 7)
             clear o1 o2 o3 oblk hv hvc hlen f7a hcap hvm
             go_wp2_with fail
             go_region_law ((first
               | (refine step_append_sl rfl (.tmp 55) (.tmp 61) 48 rfl 0 28 i0 (.slice none 0 0) 24 Tryz.underlying48 hi hz0 hz1 hz2 rfl (.slice va k vc) vs rfl (OwnSl.alloc (HF.out w2 H2.out).2.2.2 _) ⟨_, 0, none⟩ (.slice pa 3 pc) rfl (World.news_of_block (heap_alloc_new _ _)) (by intro u hu; simp at hu; subst hu; rfl) (by rw [HLN.out]; unfold maxLen; omega) (by rw [HLN.out]; omega) (Nat.zero_le _) ?_; intro v2 w5 ho5 hg5 hb5; obtain ⟨za, zc, hv2, -, -⟩ := ho5.shape; rw [List.length_append, HLN.out] at hv2; simp only [List.length_cons, List.length_nil, Nat.zero_add] at hv2; subst hv2; obtain ⟨m7, mf7⟩ := HS.out w2 _ w5 H2.out hg5)
               | (go_simp; go_at_call 16; refine (HPI.out _ ((Below.refl _ _).drewN 1)).mono ?_; rintro e w2 ⟨pa, pc, rfl, hrow, hb2⟩; have H2 := Lib.hid (btrans ((Below.refl _ _).drewN 1) hb2); obtain ⟨p1, p7, p7a, -⟩ := HF.out w2 H2.out; have p7b := p7a (.cells #[.slice pa 3 pc] 28); clear p7a)))
             all_goals
               rw [HPQ.out] at hrow
               have hw1 : Below wr.heap.size wr (w2.alloc (.cells #[.slice pa 3 pc] 28)) := H2.out.alloc H2.out.size _
               have hgp : (w2.alloc (.cells #[.slice pa 3 pc] 28)).grownBy w5 K2.pv.ownBlock := by rw [HV.out]; exact hg5
               have hR : RdI .i64 (w2.alloc (.cells #[.slice pa 3 pc] 28)) pa 3 pc pic0 := (RdI.of_own hrow).below ((Below.refl _ _).alloc (Nat.le_refl _) _)
               have hpics := PicsAt.appended (w := wr) (vs1 := vs) (u := .slice pa 3 pc) (cb := cb) (m := 7) (x := .slice za (k + 1) zc) (pics := List.replicate k pic0) (z := pic0) (fun b hb => H.out.ch.pl b hb) HOB.out (by rw [HLN.out]; simp) HO3.out hw1 hgp ho5 (by rw [HV.out]; exact hb5) (fun g hg => (ho5.blk hg).2)
                 ⟨pa, pc, rfl, hR, fun a ha => by
                   have hl : wr.heap.size ≤ a.block ∧ a.block < w2.heap.size := hrow.lt a.block (by rw [ha]; rfl)
                   exact ⟨.inr ⟨hl.1, by simp; omega⟩, fun e => by have := H.out.ch.pl _ (HOB.out _ e); have := hl.1; omega⟩⟩
                 H.out.ch.d0.2.2.2.2 H.out.ch.row.lt
               have hkp : Keep (fun b => K2.pv.ownBlock = some b) wr w5 := (Keep.of_below hw1).grown hgp (fun k hk => .inl hk)
               have hfin := H.out.pics hkp (fun b hb => HOB.out b hb) hpics
               have hN : List.replicate (k + 1) pic0 = List.replicate k pic0 ++ [pic0] := List.replicate_succ'
               rw [← hN] at hfin
               have HFIN := Lib.hid hfin
               clear hrow hw1 hgp hR hpics hkp hfin hN ho5 hg5 hb5
               go_wp2_with fail
               have hg := HG.out
               go_roundg (3 - (k + 1))
               case measure => omega
               case rel => exact ⟨k + 1, _, by omega, by go_num, HFIN.out⟩
           · have hk3 : k = 3 := by have := HG.out; omega
             subst hk3
             go_wp2_with fail
             go_ret
             exact ⟨cb, K2, rfl, H.out.like rfl rfl rfl rfl rfl rfl⟩
end
end Go.Proofs.YtajnfkmkombajaaGreatDoor
namespace Go.Proofs.YtajnfkmkombajaaGreatDoor
open Go.RowKit Go.Maps
theorem CS.stake_pics (x : CS) (o b n : Int) : (x.stakeOp o b n).2.cycle = x.cycle ∧ (x.stakeOp o b n).2.pics = x.pics := by
 unfold CS.stakeOp; split
 · exact ⟨rfl, rfl⟩
 · split <;> exact ⟨rfl, rfl⟩
theorem CS.free_pics (x : CS) (o : Int) : (x.freeOp o).2.2.cycle = x.cycle ∧ (x.freeOp o).2.2.pics = x.pics := by
 unfold CS.freeOp; split <;> exact ⟨rfl, rfl⟩
section
variable (W : World) (F : Nat → Prop) (cb : Nat) (K : RChL) (sd : Nat) (x : CS) (Z : List (List Int)) (w : World)
end
end Go.Proofs.YtajnfkmkombajaaGreatDoor
