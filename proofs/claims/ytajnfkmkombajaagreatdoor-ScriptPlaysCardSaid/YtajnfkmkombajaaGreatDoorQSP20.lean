/-
  The walk of a cycle's end.
  Plain: what a block's reward is, and what it leaves; how far supply may grow. No program in sight.
  A chain: a block is baked.
  A new chain.
  From a row's cell on listed sentinels (all ten, and errors.errorType) to what the walks ask.
-/
import Derived.Test.YtajnfkmkombajaaGreatDoorQSP19
import Derived.Test.YtajnfkmkombajaaGreatDoorQSP02
import Derived.Deep.Onto
import Derived.Test.YtajnfkmkombajaaGreatDoorQSP14
import Derived.Deep.RegionLaw
import Derived.Test.YtajnfkmkombajaaGreatDoorQSP01
import Derived.LaidSub
set_option linter.unusedVariables false
set_option linter.unusedSimpArgs false
set_option linter.unusedVariables false
namespace Go.Proofs.YtajnfkmkombajaaGreatDoor
open Go.RowKit Go.Maps
theorem share_pos {n : Int} (h : 0 ≤ n) : shareA n = n / 7 ∧ shareB n = n - n / 7 := ⟨if_neg (by omega), if_neg (by omega)⟩
theorem CS.endOp_of {x y : CS} (h : { x.judged with k := x.k.asked } = y) : x.endOp = { y with bonus := bonusN y.bonus y.ratio, cycle := y.cycle + 1, pics := y.pics.drop 1 ++ [y.newPic] } := by subst h; rfl
theorem CS.judged_cycle (x : CS) : x.judged.cycle = x.cycle := (CS.judges_pics _ _).2.1
section
variable (A : Nat → Addr) (S : List Nat) (W : World) (F : Nat → Prop) (cb : Nat) (K : ChL) (n sd : Nat) (x : CS) (w : World)
set_option maxRecDepth 8000 in
set_option maxHeartbeats 2000000 in
theorem chain_end (h : ChGo W F cb K n sd x w) (hx : x.Inv) (hE : Errs A S W) (hFE : ∀ c ∈ S, ¬ F (gE c)) (h2 : 2 ∈ S) (h4 : 4 ∈ S) (h6 : 6 ∈ S) (hW : x.s.W.length ≤ 8000) (hn : n ≤ 1000000) (hk : x.k.L.length ≤ 1000000) (hcy : x.cycle ≤ 9223372036854775806) :
   Calls Tryz.prog 179 #[.pointer (some ⟨cb, 0, none⟩)] w fun e w' => e = .returned (.tuple #[]) ∧ ∃ K', ChGo W F cb K' n sd x.endOp w' := by
 have H0 := Lib.hid h
 have HEE := Lib.hid (And.intro hE hFE)
 have HX := Lib.hid hx
 have c2 := h.c2
 have hdl : x.k.due.length ≤ 1000000 := by unfold KS.due; rw [List.length_drop]; omega
 clear h hx hE hFE
 go_enter Tryz.func179, Tryz.ntmps179
 go_wp2_with fail
 refine (court_Due K.kb K.Fk n x.k _ H0.out.ch.ct hk).mono ?_
 rintro e w1 ⟨v, rfl, ho, hK, hc⟩
 have HS0 := Lib.hid (show EndS W F cb (K.withK w w1) n sd { x with k := x.k.asked } v x.k.due w1 from
   ⟨H0.out.court (Nat.le_refl n) ⟨hK, hc.foot (fun _ hb => .inl hb) (grownF_lt (fun _ hb => H0.out.ch.ct.lt _ hb) hK.size)⟩, ho.mono (Nat.zero_le _), fun g hg => .inr (ho.lt g hg)⟩)
 obtain ⟨va, vc, rfl⟩ := own_shape ho
 clear ho hK hc c2
 go_wp2_with fail
 go_loopg [15] x.k.due.length (fun g i wr => ∃ (j : Nat) (K' : ChL), g + j = x.k.due.length ∧ i = .int .i64 j ∧ EndS W F cb K' n sd (x.judgedK j) (.slice va x.k.due.length vc) x.k.due wr)
 case atStart => exact ⟨0, _, rfl, rfl, HS0.out⟩
 case round =>
   clear HS0
   obtain ⟨j, K1, hg, rfl, hs⟩ := hrel
   have HS := Lib.hid hs; have HG := Lib.hid hg; clear hs hg
   by_cases hj : j < x.k.due.length
   · obtain ⟨c, hc⟩ : ∃ c, x.k.due[j]? = some c := ⟨_, List.getElem?_eq_getElem hj⟩
     obtain ⟨b7, off7, rfl, hbl7, hcs7⟩ := (RdR.of_row (enc := caseE) (fun _ => rfl) (by decide) HS.out.row).cells j c hc
     have htc := (RdR.of_row (enc := caseE) (fun _ => rfl) (by decide) HS.out.row).lc
     have t0 := hcs7 0 (by decide)
     have t1 := hcs7 1 (by decide)
     have t2 := hcs7 2 (by decide)
     have t3 := hcs7 3 (by decide)
     simp only [caseE, List.getElem?_cons_zero, List.getElem?_cons_succ, Nat.add_zero] at t0 t1 t2 t3
     have HSTEP := Lib.hid (CS.judgedK_step x j c hc)
     have HZ := Lib.hid (CS.judgedK_inv HX.out j)
     have HZW := Lib.hid (show (x.judgedK j).s.W.length ≤ 8000 by rw [CS.judgedK_len]; exact hW)
     obtain ⟨l1, l2, -⟩ := SS.slash_total HZ.out.s c.2.b c.2.c (pct c.2.n)
     have tb := HZ.out.s.total_bd
     have tb2 : (x.judgedK j).s.total ≤ 1125899906842624 := by have := HZ.out.bal; have := HZ.out.p.most; have := HZ.out.p.sum_bd; omega
     have tb3 := (SS.slashOp_ok HZ.out.s c.2.b c.2.c (pct c.2.n)).total_bd.1
     have hlost : 0 ≤ ((x.judgedK j).s.slashOp c.2.b c.2.c (pct c.2.n)).1 ∧ ((x.judgedK j).s.slashOp c.2.b c.2.c (pct c.2.n)).1 ≤ 1125899906842624 := by omega
     have HLO := Lib.hid hlost
     clear hcs7 hc l1 l2 tb tb2 tb3 hlost
     generalize x.judgedK j = z at *
     obtain ⟨wb, hwb⟩ : ∃ wb, wr.alloc (.cells #[.int .i64 c.1, .int .i64 c.2.b, .int .i64 c.2.c, .int .i64 c.2.n] 222) = wb := ⟨_, rfl⟩
     have hbx := HS.out.box c 222
     rw [hwb] at hbx
     have HB := Lib.hid hbx; clear hbx
     have hlt := HS.out.go.keep.size
     generalize x.k.due.length = dl at *
     go_upto_region 3 with fail
     have e0 := HB.out.s.go.c1; have e1 := HB.out.b1; have e2 := HB.out.b2; have e3 := HB.out.b3
     go_cut [4, 5] (fun s4 _ wx => ∃ K2, s4 = .int .i64 (z.s.slashOp c.2.b c.2.c (pct c.2.n)).1 ∧ EndB W F cb K2 n sd { z with s := (z.s.slashOp c.2.b c.2.c (pct c.2.n)).2.2 } (.slice (some ⟨b7, off7, none⟩) dl vc) x.k.due wr.heap.size c wx)
     case first =>
       have HSL := Lib.hid (stake_Slash A S K1.sb n K1.Fs z.s c.2.b c.2.c (pct c.2.n) (wb.drewN 1) (HB.out.below ((Below.refl _ _).drewN 1)).s.go.ch.st ((HB.out.below ((Below.refl _ _).drewN 1)).s.go.errs HEE.out.1 HEE.out.2) h2 h4 (fun c hc hf => HB.out.s.go.fs HEE.out.1 HEE.out.2 c hc (.inr (.inr (.inl hf)))) HZW.out hn)
       go_region_held3 (fun wx => wx.cell? ⟨cb, 1, none⟩ = some (.pointer (some ⟨K1.sb, 0, none⟩)) ∧ wx.cell? ⟨wr.heap.size, 1, none⟩ = some (.int .i64 c.2.b) ∧ wx.cell? ⟨wr.heap.size, 2, none⟩ = some (.int .i64 c.2.c) ∧ wx.cell? ⟨wr.heap.size, 3, none⟩ = some (.int .i64 c.2.n)) (first | exact ⟨H1.out.s.go.c1, H1.out.b1, H1.out.b2, H1.out.b3⟩ | exact ⟨e0, e1, e2, e3⟩)
         (first
           | (go_at_call 202; refine (court_Percent c.2.n _).mono ?_; rintro y wp ⟨rfl, rfl⟩)
           | (go_at_call 201; refine HSL.out.mono ?_; rintro y w2 ⟨rfl, ka⟩; have H1 := Lib.hid ((HB.out.below ((Below.refl _ _).drewN 1)).stakes ka)))
       all_goals go_wp2_with fail
       all_goals go_meet
       all_goals (case rel => exact ⟨_, rfl, H1.out⟩)
     case rest =>
       obtain ⟨K2, rfl, hB2⟩ := hcut
       have HB2 := Lib.hid hB2; clear hB2 e0 e1 e2 e3 HB hwb
       obtain ⟨sp1, sp2⟩ := share_pos HLO.out.1
       have HJ := Lib.hid (show z.judge c = { z with s := (z.s.slashOp c.2.b c.2.c (pct c.2.n)).2.2, p := ((z.p.inOp c.1 ((z.s.slashOp c.2.b c.2.c (pct c.2.n)).1 / 7)).2.burnOp ((z.s.slashOp c.2.b c.2.c (pct c.2.n)).1 - (z.s.slashOp c.2.b c.2.c (pct c.2.n)).1 / 7)).2 } from rfl)
       have hls := HLO.out.2
       generalize (z.s.slashOp c.2.b c.2.c (pct c.2.n)).2.2 = st at *
       generalize (z.s.slashOp c.2.b c.2.c (pct c.2.n)).1 = lost at *
       have SP1 := Lib.hid sp1; have SP2 := Lib.hid sp2; clear sp1 sp2
       go_wp2_with fail
       refine (court_Share lost (by omega) _).mono ?_
       rintro y w3 ⟨rfl, rfl⟩
       rw [SP1.out, SP2.out]
       clear hls
       generalize lost / 7 = la at *
       generalize lost - la = lb at *
       have e0 := HB2.out.s.go.c0; have e1 := HB2.out.b0
       go_upto_region 5 with fail
       go_cut [49] (fun _ wx => EndB W F cb K2 n sd { z with s := st, p := (z.p.inOp c.1 la).2 } (.slice (some ⟨b7, off7, none⟩) dl vc) x.k.due wr.heap.size c wx)
       case first =>
         have HIN := Lib.hid (purse_In A S K2.pb z.p c.1 la (wc.drewN 1) ((HB2.out.below ((Below.refl _ _).drewN 1)).s.go.errs HEE.out.1 HEE.out.2) h2 h6 (HB2.out.below ((Below.refl _ _).drewN 1)).s.go.ch.purse)
         go_region_held3 (fun wx => wx.cell? ⟨cb, 0, none⟩ = some (.pointer (some ⟨K2.pb, 0, none⟩)) ∧ wx.cell? ⟨wr.heap.size, 0, none⟩ = some (.int .i64 c.1)) (first | exact ⟨H1.out.s.go.c0, H1.out.b0⟩ | exact ⟨e0, e1⟩)
           ((go_at_call 86; refine HIN.out.mono ?_; rintro y w2 ⟨rfl, ka⟩; have H1 := Lib.hid ((HB2.out.below ((Below.refl _ _).drewN 1)).purse ka)))
         all_goals go_wp2_with fail
         all_goals go_meet
         all_goals (case rel => exact H1.out)
       case rest =>
         rename World => wd
         have HB3 := Lib.hid hcut; clear hcut HB2 e0 e1
         have e0 := HB3.out.s.go.c0
         go_wp2_with fail
         refine (purse_Burn A S K2.pb (z.p.inOp c.1 la).2 lb _ (HB3.out.s.go.errs HEE.out.1 HEE.out.2) h2 h6 HB3.out.s.go.ch.purse).mono ?_
         rintro y w4 ⟨rfl, ka⟩
         have HB4 := Lib.hid (HB3.out.purse ka); clear ka
         have HN := Lib.hid (show x.judgedK (j + 1) = { z with s := st, p := ((z.p.inOp c.1 la).2.burnOp lb).2 } by rw [HSTEP.out, HJ.out])
         go_wp2_with fail
         have hg := HG.out
         go_roundg (dl - (j + 1))
         case measure => omega
         case rel => exact ⟨j + 1, K2, by omega, by go_num, by rw [HN.out]; exact HB4.out.s⟩
   · have hjd : j = x.k.due.length := by have := HG.out; omega
     have HJA := CS.judgedK_all x
     rw [← hjd] at HJA
     obtain ⟨y, hy⟩ : ∃ y : CS, { x.judged with k := x.k.asked } = y := ⟨_, rfl⟩
     have HY := Lib.hid (CS.endOp_of hy)
     have hyc : y.cycle = x.cycle := by rw [← hy]; exact CS.judged_cycle x
     rw [hy] at HJA
     have hgo := HS.out.go
     have hinv := CS.judgedK_inv HX.out j
     rw [HJA] at hgo hinv
     have H1 := Lib.hid hgo
     have HI := Lib.hid hinv
     have hdj := HG.out
     rw [← hyc] at hcy
     clear hgo hinv HS HJA hjd hy hyc
     have e6 := H1.out.c6
     go_upto_region 8 with fail
     go_cut [57] (fun _ wx => ChGo W F cb K1 n sd { y with bonus := bonusN y.bonus y.ratio } wx)
     case first =>
       have HRT := Lib.hid (chain_ratio A S W F cb K1 n sd y (wr.drewN 1) (H1.out.drewN 1) HI.out HEE.out.1 HEE.out.2 h2)
       go_region_with (first
         | (go_at_call 197; refine HRT.out.mono ?_; rintro e w2 ⟨rfl, d1⟩; have HA := Lib.hid ((H1.out.drewN 1).dr d1); have q6 := HA.out.c6)
         | (go_at_call 205; refine (issue_Bonus A S y.bonus y.ratio _ (HA.out.errs HEE.out.1 HEE.out.2) h2).mono ?_; rintro e w3 ⟨rfl, d2⟩; have HB := Lib.hid (HA.out.dr d2); have r6 := HB.out.c6; have f6 := HB.out.ch.row.frozen 6))
       all_goals go_wp2_with fail
       all_goals go_meet
       all_goals (case rel => exact HB.out.put (i := 6) rfl rfl rfl rfl rfl)
     case rest =>
       have H2 := Lib.hid hcut; clear hcut e6 H1
       have e4 := H2.out.c4; have f4 := H2.out.ch.row.frozen 4
       simp only at e4
       have hcy0 := HI.out.cy
       have H3 := Lib.hid (H2.out.put (i := 4) (v := .int .i64 (y.cycle + 1)) (y := { y with bonus := bonusN y.bonus y.ratio, cycle := y.cycle + 1 }) rfl rfl rfl rfl rfl)
       have e1 := H3.out.c1
       go_wp2_with fail
       refine (right_Picture K1.sb n K1.Fs y.s _ H3.out.ch.st).mono ?_
       rintro e w2 ⟨rfl, hb2, hrow⟩
       obtain ⟨y2, hy2⟩ : ∃ y2 : CS, { y with bonus := bonusN y.bonus y.ratio, cycle := y.cycle + 1 } = y2 := ⟨_, rfl⟩
       have HE2 := Lib.hid (show x.endOp = { y2 with pics := y2.pics.drop 1 ++ [y2.newPic] } by rw [HY.out, ← hy2]; rfl)
       have hys : y2.s = y.s := by rw [← hy2]
       have hyp : y2.pics = y.pics := by rw [← hy2]
       have hthree : y2.pics.length = 3 := by rw [hyp]; exact HI.out.three
       have h3 := H3.out
       rw [hy2] at h3
       have H3' := Lib.hid h3
       have hpm := pic_max HI.out.s
       rw [← hys] at hpm hrow
       clear h3 hy2 hys hyp e1 e4 f4 HY HI hcy0 hcy H2 H3
       generalize wc.setCell ⟨cb, 4, none⟩ (.int .i64 (y.cycle + 1)) = wx at *
       have hbx := H3'.out.ch.footlt
       generalize hB : wx.heap.size = B at *
       have H4 := Lib.hid (H3'.out.below (by rw [hB]; exact hb2))
       have hBl : B < w2.heap.size := hrow.lt
       have hbw : Below wx.heap.size wx w2 := by rw [hB]; exact hb2
       obtain ⟨vs, o1w, o2, o3⟩ := H3'.out.ch.pics.own
       have o1 := o1w.keep (Keep.of_below (F := fun _ => False) hbw) (fun _ _ => id)
       have oblk := H3'.out.ch.pics.blk
       match vs, (o2.trans hthree) with
       | [v0, va1, vb1], _ =>
       obtain ⟨mx, hmxe⟩ : ∃ mx, Lib.maxOf (y2.s.picture.take 3) = mx := ⟨_, rfl⟩
       have hmx := Tryz.slices_Max_int B 0 3 3 y2.s.picture w2 (by decide) (Nat.le_refl 3) (by decide) (fun j hj => by
         rw [Nat.zero_add, hrow.cell, List.getElem?_map, List.getElem?_eq_getElem hj]; simp [hj])
       rw [hmxe] at hmx hpm
       have HPM := Lib.hid hpm; clear hpm
       have HMX := Lib.hid hmx; clear hmx hmxe
       obtain ⟨g, off, cp, hv, -, hgl, hcp, hcm, hcell⟩ := o1.cells (by simp)
       simp only [List.length_cons, List.length_nil, Nat.zero_add, Nat.reduceAdd] at hv hcp hcell
       have hz2 : y2.pics[2]? = some (y2.pics.getD 2 []) := by
         rw [List.getD_eq_getElem?_getD, List.getElem?_eq_getElem (by rw [hthree]; decide)]; rfl
       obtain ⟨qa, qc, qe, QR, qb⟩ := o3 2 vb1 _ rfl hz2
       have h2c := hcell 2 (by decide)
       simp only [List.getElem?_cons_succ, List.getElem?_cons_zero] at h2c
       rw [qe] at h2c
       have hnB : ¬ K1.Fp B := fun hf => by have := H3'.out.ch.pl B hf; omega
       have hgB : g ≠ B := fun e => hnB (by rw [← e]; exact oblk g (by rw [hv]; rfl))
       have HQ := Lib.hid (And.intro (QR.below hbw) qb); have HBW := Lib.hid hbw; clear QR qb qe hbw o1w
       have HROW := Lib.hid hrow; clear hrow hcell
       have HO1 := Lib.hid o1; have HO3 := Lib.hid o3; have HOB := Lib.hid oblk; clear o1 o3 oblk
       have e7 := H4.out.c7
       rw [hv] at e7
       have HVV := Lib.hid hv; clear hv
       have HT3 := Lib.hid hthree; clear hthree o2 hz2
       go_wp2_with fail
       refine HMX.out.mono ?_
       rintro e w4 ⟨rfl, hw4⟩
       rw [hw4]
       clear hw4
       go_upto_if 84 with fail
       go_cut [8] (fun p wz => ∃ pa pc d, p = .slice pa y2.newPic.length pc ∧ wz = w2.drewN d ∧ RdI .i64 w2 pa y2.newPic.length pc y2.newPic ∧ ∀ a, pa = some a → (K1.Fp a.block ∨ (B ≤ a.block ∧ a.block < w2.heap.size)) ∧ K1.pv.ownBlock ≠ some a.block)
       case first =>
         by_cases hz : y2.s.picture = [0, 0, 0]
         · have hm0 : (mx == 0) = true := by rw [HPM.out.2 hz]; rfl
           have HNP := Lib.hid (show y2.newPic = y2.pics.getD 2 [] from if_pos hz)
           clear hz
           have HQL := Lib.hid (rfl : (y2.pics.getD 2 []).length = (y2.pics.getD 2 []).length)
           generalize hql : (y2.pics.getD 2 []).length = ql at h2c
           go_wp2_with fail
           go_quiet (fail)
           go_wp2_with fail
           go_meet
           case rel => exact ⟨qa, qc, nq, by rw [HNP.out, hql], rfl, by rw [HNP.out]; exact HQ.out.1, fun a ha => ⟨.inl (HQ.out.2 a ha).1, (HQ.out.2 a ha).2⟩⟩
         · have hm0 : (mx == 0) = false := by
             cases h : mx == 0 with
             | false => rfl
             | true => exact absurd (HPM.out.1 (by simpa using h)) hz
           have HNP := Lib.hid (show y2.newPic = y2.s.picture from if_neg hz)
           clear hz
           go_wp2_with fail
           go_meet
           case rel => exact ⟨some ⟨B, 0, none⟩, 3, 0, by rw [HNP.out]; rfl, rfl, by rw [HNP.out]; exact RdI.of_rowAt HROW.out (show 3 ≤ maxLen by decide), fun a ha => by
             cases ha
             exact ⟨.inr ⟨Nat.le_refl _, hBl⟩, fun e => by rw [HVV.out] at e; simp [Value.ownBlock] at e; exact hgB e⟩⟩
       case rest =>
         obtain ⟨pa, pc, d, rfl, rfl, hR, hab⟩ := hcut
         obtain ⟨i0, hi, hz0, hz1, hz2⟩ := info_parts infoSl
         have HE7 := Lib.hid H4.out
         have ho1 := HO1.out
         rw [HVV.out] at ho1
         obtain ⟨v', hsl, htl, ⟨va', vc', hv'⟩, hvb⟩ := OwnSl.tail (t := 48) (P := Tryz.prog) Tryz.underlying48 (fun wx => by kernel_rfl) .i64 ho1
         simp only [List.length_cons, List.length_nil, Nat.zero_add, Nat.reduceAdd] at hv'
         subst hv'
         have HTL := Lib.hid htl; have HVB := Lib.hid hvb; clear htl ho1 hvb
         have HAB := Lib.hid hab; have HRR := Lib.hid hR; clear hab hR
         have HW1 := Lib.hid (fun d (ob : Obj) => HTL.out ((w2.drewN d).alloc ob) (OwnSl.alloc (w := w2.drewN d) (by have := HO1.out; rw [HVV.out] at this; exact this) ob))
         generalize hnp : y2.newPic.length = nl at *
         go_wp2_with (at_builtin; refine wpList_append_sl _ rfl (.tmp 102) (.tmp 104) 48 rfl 0 28 i0 (.slice none 0 0) 24 Tryz.underlying48 hi hz0 hz1 hz2 rfl (.slice va' 2 vc') [va1, vb1] rfl (HW1.out _ _) ⟨_, 0, none⟩ (.slice pa nl pc) rfl (World.news_of_block (heap_alloc_new _ _)) (by intro u hu; simp at hu; subst hu; rfl) (show 2 + 1 ≤ maxLen by decide) (show (2 + 1) * 24 ≤ 140737488355328 by decide) (Nat.zero_le _) ?_)
         intro v2 w5 ho5 hg5 hb5
         obtain ⟨za, zc, hv2, -, -⟩ := ho5.shape
         simp only [List.length_cons, List.length_nil, Nat.zero_add, Nat.reduceAdd] at hv2
         subst hv2
         have hgp : ((w2.drewN d).alloc (Obj.cells #[Value.slice pa nl pc] 28)).grownBy w5 K1.pv.ownBlock := by rw [HVV.out, ← HVB.out]; exact hg5
         have hw1 : Below wx.heap.size wx ((w2.drewN d).alloc (Obj.cells #[Value.slice pa nl pc] 28)) := (HBW.out.drewN d).alloc HBW.out.size _
         have hpics := PicsAt.appended (vs1 := [va1, vb1]) (u := .slice pa nl pc) (cb := cb) (m := 7) (x := .slice za 3 zc) (pics := y2.pics.drop 1) (z := y2.newPic) (fun b hb => H3'.out.ch.pl b hb) HOB.out (by rw [List.length_drop, HT3.out]; rfl) (fun i v z hvi hzi => HO3.out (i + 1) v z (by simpa using hvi) (by rw [List.getElem?_drop] at hzi; rw [Nat.add_comm]; exact hzi)) hw1 hgp ho5
           (by rw [HVV.out, ← HVB.out]; simpa using hb5) (fun g hg => (ho5.blk hg).2)
           ⟨pa, pc, by rw [hnp], (by
             have h0 := HRR.out
             rw [← hnp] at h0
             exact (h0.below ((Below.refl _ _).drewN d)).below ((Below.refl _ _).alloc (Nat.le_refl _) _)), fun a ha => ⟨(HAB.out a ha).1.imp id (fun h => ⟨by rw [hB]; exact h.1, by have := h.2; simp; omega⟩), (HAB.out a ha).2⟩⟩
           H3'.out.ch.d0.2.2.2 H3'.out.ch.row.lt
         have hkp : Keep (fun b => K1.pv.ownBlock = some b) wx w5 := (Keep.of_below hw1).grown hgp (fun k hk => .inl hk)
         have hfin := H3'.out.pics hkp (fun b hb => HOB.out b hb) hpics
         have hr5 : RowAt cb 105 (chainVs K1 sd y2) w5 := H3'.out.ch.row.keep hkp (fun e => H3'.out.ch.d0.2.2.2 (HOB.out _ e))
         have m7 : w5.cell? ⟨cb, 7, none⟩ = some K1.pv := hr5.cell 7
         have f7 : w5.frozen? ⟨cb, 7, none⟩ = false := hr5.frozen 7
         rw [← HE2.out] at hfin
         have HFIN := Lib.hid hfin
         clear hgp hw1 hpics hkp hfin hr5 ho5 hg5 hb5
         go_wp2_with fail
         go_end0
         exact ⟨rfl, _, HFIN.out⟩
end
end Go.Proofs.YtajnfkmkombajaaGreatDoor
namespace Go.Proofs.YtajnfkmkombajaaGreatDoor
open Go.RowKit
def cap : Nat → Int
 | 0 => 60000
 | i + 1 => cap i + cap i / 80
end Go.Proofs.YtajnfkmkombajaaGreatDoor
namespace Go.Proofs.YtajnfkmkombajaaGreatDoor
open Go.RowKit Go.Maps
noncomputable def CS.bakeOp (x : CS) (sd : Nat) (b r : Int) : Int × Nat × CS :=
 if x.turnC r ≠ 0 then (0, x.turnC r, x) else if x.turnV sd r ≠ b then (0, 9, x) else ((x.reward b).1, 0, (x.reward b).2.stepOp)
theorem turnC_zero {x : CS} {r : Int} : x.turnC r = 0 → roundOk x.cycle x.level r := fun h => by
 unfold CS.turnC at h
 split at h
 · assumption
 · cases h
theorem CS.reward_len (c : CS) (b : Int) : (c.reward b).2.s.W.length = c.s.W.length := by
 unfold CS.reward
 split
 · rfl
 · split
   · simp only; rw [SS.add_len]
   · split <;> (simp only; rw [SS.add_len])
section
variable (A : Nat → Addr) (S : List Nat) (W : World) (F : Nat → Prop) (cb : Nat) (K : ChL) (n sd : Nat) (x : CS) (w : World)
set_option maxRecDepth 8000 in
set_option maxHeartbeats 1000000 in
theorem chain_Bake (b r : Int) (h : ChGo W F cb K n sd x w) (hx : x.Inv) (hs : sd < 18446744073709551616) (hE : Errs A S W) (hFE : ∀ c ∈ S, ¬ F (gE c)) (h2 : 2 ∈ S) (h3 : 3 ∈ S) (h4 : 4 ∈ S) (h6 : 6 ∈ S) (h9 : 9 ∈ S) (hW : x.s.W.length ≤ 8000) (hn : n + 1 ≤ 1000000) (hk : x.k.L.length ≤ 1000000) :
   Calls Tryz.prog 151 #[.pointer (some ⟨cb, 0, none⟩), .int .i64 b, .int .i64 r] w fun e w' => e = .returned (.tuple #[.int .i64 (x.bakeOp sd b r).1, ev A (x.bakeOp sd b r).2.1]) ∧ ∃ K', ChGo W F cb K' (n + 1) sd (x.bakeOp sd b r).2.2 w' := by
 have H0 := Lib.hid h
 have HEE := Lib.hid (And.intro hE hFE)
 have HX := Lib.hid hx
 have HT := Lib.hid (chain_Turn A S W F cb K n sd x r w h hx hs hE hFE h2 h3 h4)
 clear h hx hE hFE
 by_cases hc : x.turnC r = 0
 · obtain ⟨⟨r0, r1⟩, ⟨r2, r3⟩, r4, r5⟩ := turnC_zero hc
   rw [show ev A (x.turnC r) = .nilIface by rw [hc]; rfl] at HT
   by_cases hb : x.turnV sd r = b
   · have E := Lib.hid (show x.bakeOp sd b r = ((x.reward b).1, 0, (x.reward b).2.stepOp) by unfold CS.bakeOp; rw [if_neg (by simp [hc]), if_neg (by simp [hb])])
     obtain ⟨i1, -, -, i4, i5⟩ := CS.reward_inv HX.out b
     obtain ⟨k1, k2, k3⟩ := CS.reward_keeps x b
     have HI := Lib.hid i1
     have hlen := CS.reward_len x b
     have HRW := Lib.hid (fun wx (hg : ChGo W F cb K n sd x wx) => chain_reward A S W F cb K n sd x wx b hg HX.out HEE.out.1 HEE.out.2 h2 h3 h4)
     rw [hb] at HT
     have hl1 : (x.reward b).2.level = x.level := i5
     have hc1 : (x.reward b).2.cycle = x.cycle := i4
     have hk1 : (x.reward b).2.k.L.length ≤ 1000000 := by rw [k2]; exact hk
     have hw1 : (x.reward b).2.s.W.length ≤ 8000 := by rw [hlen]; exact hW
     clear i1 i4 i5 k1 k2 k3 hlen hb hc
     generalize (x.reward b).2 = y at *
     generalize (x.reward b).1 = rw_ at *
     generalize hL : x.level = L at *
     go_enter Tryz.func151, Tryz.ntmps151
     go_wp2_with fail
     refine HT.out.mono ?_
     rintro e w1 ⟨rfl, hb1⟩
     have H1 := Lib.hid (H0.out.below hb1); clear hb1
     go_wp2_with fail
     refine (HRW.out _ H1.out).mono ?_
     rintro e w2 ⟨rfl, K2, hg2⟩
     have H2 := Lib.hid hg2; clear hg2
     have c5 := H2.out.c5; have f5 := H2.out.ch.row.frozen 5
     rw [hl1] at c5
     have H3 := Lib.hid (H2.out.put (i := 5) (v := .int .i64 (L + 1)) (y := { y with level := L + 1 }) rfl rfl rfl rfl rfl)
     have em : (L + 1).tmod 4 = (L + 1) % 4 := Int.tmod_eq_emod_of_nonneg (by omega)
     by_cases hm : (L + 1) % 4 = 0
     · have hm' : (L + 1).tmod 4 = 0 := by rw [em]; exact hm
       have ES := Lib.hid (show y.stepOp = ({ y with level := L + 1 } : CS).endOp by unfold CS.stepOp; rw [hl1, if_pos hm])
       have hinv : ({ y with level := L + 1 } : CS).Inv := ⟨HI.out.p, HI.out.s, HI.out.reg, HI.out.bal, HI.out.known, HI.out.done, HI.out.b0, HI.out.b1, HI.out.three, HI.out.pic, HI.out.cy, by show 0 ≤ L + 1; omega⟩
       have HEN := Lib.hid (chain_end A S W F cb K2 (n + 1) sd { y with level := L + 1 } _ H3.out hinv HEE.out.1 HEE.out.2 h2 h4 h6 hw1 hn hk1 (by show y.cycle ≤ _; rw [hc1]; omega))
       have hm2 : ((L + 1) % 4 == 0) = true := by simp [hm]
       clear em hm hinv
       go_wp2_with fail
       refine HEN.out.mono ?_
       rintro e w3 ⟨rfl, K3, hg3⟩
       have H4 := Lib.hid hg3; clear hg3
       go_wp2_with fail
       go_ret2
       exact ⟨by rw [E.out]; rfl, by rw [E.out, ES.out]; exact ⟨K3, H4.out⟩⟩
     · have hm' : ((L + 1).tmod 4 == 0) = false := by rw [em]; simp [hm]
       have ES := Lib.hid (show y.stepOp = { y with level := L + 1 } by unfold CS.stepOp; rw [hl1, if_neg hm])
       have hm2 : ((L + 1) % 4 == 0) = false := by simp [hm]
       clear em hm
       go_wp2_with fail
       go_ret2
       exact ⟨by rw [E.out]; rfl, by rw [E.out, ES.out]; exact ⟨K2, H3.out⟩⟩
   · have E := Lib.hid (show x.bakeOp sd b r = (0, 9, x) by unfold CS.bakeOp; rw [if_neg (by simp [hc]), if_pos hb])
     have hne : (x.turnV sd r == b) = false := by simp [hb]
     have HG9 := Lib.hid (fun wx (hb1 : Below w.heap.size w wx) => (show wx.cell? ⟨9, 0, none⟩ = some (.iface 288 (.pointer (some (A 9)))) from ((H0.out.below hb1).errs HEE.out.1 HEE.out.2).cell 9 h9))
     clear hc hb
     generalize x.turnV sd r = tv at *
     go_enter Tryz.func151, Tryz.ntmps151
     go_wp2_with fail
     refine HT.out.mono ?_
     rintro e w1 ⟨rfl, hb1⟩
     have g9 := HG9.out _ hb1
     have H1 := Lib.hid (H0.out.below hb1); clear hb1
     go_wp2_with fail
     go_quiet (fail)
     go_wp2_with fail
     go_ret2
     exact ⟨by rw [E.out]; rfl, by rw [E.out]; exact ⟨K, (H1.out.drewN _).mono (Nat.le_succ n)⟩⟩
 · have E := Lib.hid (show x.bakeOp sd b r = (0, x.turnC r, x) by unfold CS.bakeOp; rw [if_pos hc])
   rw [ev_some A hc] at HT
   have EV := Lib.hid (ev_some A hc)
   clear hc
   go_enter Tryz.func151, Tryz.ntmps151
   go_wp2_with fail
   refine HT.out.mono ?_
   rintro e w1 ⟨rfl, hb1⟩
   have H1 := Lib.hid (H0.out.below hb1); clear hb1
   go_wp2_with fail
   go_ret2
   exact ⟨by rw [E.out, EV.out]; rfl, by rw [E.out]; exact ⟨K, H1.out.mono (Nat.le_succ n)⟩⟩
end
end Go.Proofs.YtajnfkmkombajaaGreatDoor
namespace Go.Proofs.YtajnfkmkombajaaGreatDoor
open Go.RowKit Go.Maps
def noF : Nat → Prop := fun _ => False
theorem noFE (S : List Nat) : ∀ c ∈ S, ¬ noF (gE c) := fun _ _ h => h
theorem chain_begin {w w1 w2 w3 : World} {sd : Nat} (b1 : Below w.heap.size w w1) (hp : PurseAt w.heap.size PS.new w1) (b2 : Below w1.heap.size w1 w2) (hs : StakesAt w1.heap.size (fun k => k = w1.heap.size) 0 SS.new w2)
   (b3 : Below w2.heap.size w2 w3) (hk : CourtAt (w2.heap.size + 1) (fun b => b = w2.heap.size ∨ b = w2.heap.size + 1) 0 KS.new w3) :
   ChGo w noF w3.heap.size ⟨w.heap.size, w1.heap.size, w2.heap.size + 1, fun k => k = w1.heap.size, fun b => b = w2.heap.size ∨ b = w2.heap.size + 1, noF, .slice none 0 0⟩ 0 sd ⟨PS.new, SS.new, KS.new, 0, 0, 0, []⟩
     (w3.alloc (.cells #[.pointer (some ⟨w.heap.size, 0, none⟩), .pointer (some ⟨w1.heap.size, 0, none⟩), .pointer (some ⟨w2.heap.size + 1, 0, none⟩), .int .u64 sd, .int .i64 0, .int .i64 0, .int .i64 0, .slice none 0 0] 105)) := by
 have p1 := hp.lt
 have p2 : w1.heap.size < w2.heap.size := hs.lt rfl
 have p3 : w2.heap.size + 1 < w3.heap.size := hk.lt _ (.inr rfl)
 have ba : Below w3.heap.size w3 (w3.alloc (.cells #[.pointer (some ⟨w.heap.size, 0, none⟩), .pointer (some ⟨w1.heap.size, 0, none⟩), .pointer (some ⟨w2.heap.size + 1, 0, none⟩), .int .u64 sd, .int .i64 0, .int .i64 0, .int .i64 0, .slice none 0 0] 105)) := (Below.refl _ _).alloc (Nat.le_refl _) _
 have hb2 : Below w1.heap.size w1 w3 := btrans b2 b3
 refine ⟨Keep.of_below (btrans (btrans b1 hb2) ba), ⟨RowAt.new w3 105 _, ?_, ?_, hk.below ba, ⟨⟨[], OwnSl.nil _ _ _, rfl, fun i v z hv => by simp at hv⟩, fun g hg => by cases hg⟩, fun b hb => hb.elim, ⟨?_, ?_, ?_, id⟩, ⟨?_, ?_, id⟩, fun b hb => ⟨?_, id⟩, fun b hb => id⟩, fun b hb => .inr ?_, fun b hb => hb.elim⟩
 · exact (hp.keep (F := noF) (Keep.of_below hb2) id).keep (F := noF) (Keep.of_below ba) id
 · exact (hs.below b3).below ba
 · show w3.heap.size ≠ w.heap.size; omega
 · show ¬ (w3.heap.size = w1.heap.size); omega
 · show ¬ (w3.heap.size = w2.heap.size ∨ w3.heap.size = w2.heap.size + 1); omega
 · show ¬ (w.heap.size = w1.heap.size); omega
 · show ¬ (w.heap.size = w2.heap.size ∨ w.heap.size = w2.heap.size + 1); omega
 · have : b = w1.heap.size := hb
   show ¬ (b = w2.heap.size ∨ b = w2.heap.size + 1); omega
 · have hsz := b1.size
   have e : (w3.alloc (.cells #[.pointer (some ⟨w.heap.size, 0, none⟩), .pointer (some ⟨w1.heap.size, 0, none⟩), .pointer (some ⟨w2.heap.size + 1, 0, none⟩), .int .u64 sd, .int .i64 0, .int .i64 0, .int .i64 0, .slice none 0 0] 105)).heap.size = w3.heap.size + 1 := by simp
   rw [e]
   rcases hb with hb | hb | hb | hb | hb
   · omega
   · have : b = w.heap.size := hb
     omega
   · have : b = w1.heap.size := hb
     omega
   · have : b = w2.heap.size ∨ b = w2.heap.size + 1 := hb
     omega
   · exact hb.elim
section
variable (A : Nat → Addr) (S : List Nat) (sd : Nat) (w : World)
set_option maxRecDepth 8000 in
set_option maxHeartbeats 2000000 in
theorem chain_New (hE : Errs A S w) (h2 : 2 ∈ S) (h4 : 4 ∈ S) (h5 : 5 ∈ S) (h6 : 6 ∈ S) (h7 : 7 ∈ S) (h8 : 8 ∈ S) :
   Calls Tryz.prog 31 #[.int .u64 sd] w fun e w' => ∃ cb K, e = .returned (.pointer (some ⟨cb, 0, none⟩)) ∧ ChGo w noF cb K 3 sd CS.new w' := by
 have HE := Lib.hid hE; clear hE
 go_enter Tryz.func31, Tryz.ntmps31
 go_wp2_with fail
 refine (purse_New _).mono ?_
 rintro e w1 ⟨rfl, b1, hp⟩
 go_wp2_with fail
 refine (stake_New _).mono ?_
 rintro e w2 ⟨rfl, b2, hs⟩
 go_wp2_with fail
 refine (court_New _).mono ?_
 rintro e w3 ⟨rfl, b3, hk⟩
 have H0 := Lib.hid (chain_begin (sd := sd) b1 hp b2 hs b3 hk)
 clear b1 hp b2 hs b3 hk
 generalize hK0 : (⟨w.heap.size, w1.heap.size, w2.heap.size + 1, fun k => k = w1.heap.size, fun b => b = w2.heap.size ∨ b = w2.heap.size + 1, noF, .slice none 0 0⟩ : ChL) = K0 at H0
 clear hK0
 go_wp2_with fail
 generalize hcb : w3.heap.size = cb at *
 clear hcb
 go_loopg [12] 6 (fun g c wr => ∃ k : Nat, g + k = 6 ∧ c = .int .i64 k ∧ ChGo w noF cb K0 0 sd ⟨PS.first k, SS.new, KS.new, 0, 0, 0, []⟩ wr)
 case atStart => exact ⟨0, rfl, rfl, H0.out⟩
 case round =>
   clear H0
   obtain ⟨k, hg, rfl, hh⟩ := hrel
   have HG := Lib.hid hg; have H := Lib.hid hh; clear hg hh
   by_cases hk : k < 6
   · have c0 := H.out.c0
     have HST := Lib.hid (PS.first_step hk)
     go_wp2_with fail
     refine (purse_Mint A S K0.pb (PS.first k) k 10000 _ (H.out.errs HE.out (noFE S)) h2 H.out.ch.purse).mono ?_
     rintro e wz ⟨rfl, ka⟩
     rw [HST.out] at ka ⊢
     have H1 := Lib.hid (H.out.purse ka); clear ka
     go_wp2_with fail
     have hg := HG.out
     go_roundg (6 - (k + 1))
     case measure => omega
     case rel => exact ⟨k + 1, by omega, by go_num, H1.out⟩
   · have hk6 : k = 6 := by have := HG.out; omega
     subst hk6
     have H0 := Lib.hid (show ChGo w noF cb K0 0 sd (firstC 0 []) wr from H.out)
     clear H HG hk
     go_wp2_with fail
     rename World => wa
     go_loopg [22] 3 (fun g c wr => ∃ (k : Nat) (K' : ChL), g + k = 3 ∧ c = .int .i64 k ∧ ChGo w noF cb K' k sd (firstC k []) wr)
     case atStart => exact ⟨0, K0, rfl, rfl, H0.out⟩
     case round =>
       clear H0
       obtain ⟨k, K1, hg, rfl, hh⟩ := hrel
       have HG := Lib.hid hg; have H := Lib.hid hh; clear hg hh
       by_cases hk : k < 3
       · have c1 := H.out.c1
         obtain ⟨s, e1, e2⟩ := first_reg hk
         have HE1 := Lib.hid e1; have HE2 := Lib.hid (e2 []); clear e1 e2
         go_wp2_with fail
         refine (stake_Register A S K1.sb K1.Fs k (firstS k) k _ H.out.ch.st (H.out.errs HE.out (noFE S)) h2 h5).mono ?_
         rintro e wz ⟨rfl, ka⟩
         rw [HE1.out] at ka ⊢
         have H1 := Lib.hid (show ChGo w noF cb (K1.withS _ wz) k sd ⟨firstP k, s, KS.new, 0, 0, 0, []⟩ wz from H.out.stakes (Nat.le_refl k) ka); clear ka c1
         go_wp2_with fail
         refine (chain_Stake A S w noF cb _ k sd _ wz k k 1000 H1.out HE.out (noFE S) h2 h4 h6 h7 h8 (by unfold maxLen; omega)).mono ?_
         rintro e wy ⟨rfl, K3, ka⟩
         rw [HE2.out] at ka ⊢
         have H2 := Lib.hid ka; clear ka
         go_wp2_with fail
         have hg := HG.out
         go_roundg (3 - (k + 1))
         case measure => omega
         case rel => exact ⟨k + 1, K3, by omega, by go_num, H2.out⟩
       · have hk3 : k = 3 := by have := HG.out; omega
         subst hk3
         have H0 := Lib.hid (show ChGo w noF cb K1 3 sd (firstC 3 (List.replicate 0 pic0)) wr from H.out)
         clear H HG hk
         go_wp2_with fail
         go_loopg [36] 3 (fun g c wr => ∃ (k : Nat) (K' : ChL), g + k = 3 ∧ c = .int .i64 k ∧ ChGo w noF cb K' 3 sd (firstC 3 (List.replicate k pic0)) wr)
         case atStart => exact ⟨0, K1, rfl, rfl, H0.out⟩
         case round =>
           clear H0
           obtain ⟨k, K2, hg, rfl, hh⟩ := hrel
           have HG := Lib.hid hg; have H := Lib.hid hh; clear hg hh
           by_cases hk : k < 3
           · obtain ⟨vs, o1, o2, o3⟩ := H.out.ch.pics.own
             have oblk := H.out.ch.pics.blk
             obtain ⟨i0, hi, hz0, hz1, hz2⟩ := info_parts infoSl
             obtain ⟨va, vc, hv, hvc, hvm⟩ := o1.shape
             have hlen : vs.length = k := by rw [o2]; show (List.replicate k pic0).length = k; simp
             have HPI := Lib.hid (fun wx (hb : Below wr.heap.size wr wx) => right_Picture K2.sb 3 K2.Fs (firstC 3 (List.replicate k pic0)).s wx (H.out.below hb).ch.st)
             have HPQ := Lib.hid (first_picture (List.replicate k pic0))
             have HF := Lib.hid (show ∀ wx, Below wr.heap.size wr wx → wx.cell? ⟨cb, 1, none⟩ = some (.pointer (some ⟨K2.sb, 0, none⟩)) ∧ wx.cell? ⟨cb, 7, none⟩ = some (.slice va k vc) ∧ (∀ ob, (wx.alloc ob).cell? ⟨cb, 7, none⟩ = some (.slice va k vc)) ∧ OwnSl 0 28 (.slice va k vc) vs wx from fun wx hb => by
               have h1 := H.out.below hb
               have hr := h1.ch.row
               have e : K2.pv = .slice va k vc := by rw [hv, hlen]
               refine ⟨h1.c1, by rw [← e]; exact h1.c7, fun ob => by rw [← e]; exact (hr.alloc ob).cell 7, ?_⟩
               rw [← e]
               exact o1.keep (Keep.of_below (F := fun _ => False) hb) (fun _ _ => id))
             have HO3 := Lib.hid o3; have HOB := Lib.hid oblk
             have HV := Lib.hid (show K2.pv = .slice va k vc by rw [hv, hlen])
             have HLN := Lib.hid hlen
             obtain ⟨f1, f7, f7a, -⟩ := HF.out wr (Below.refl _ _)
             have hcap : vc ≤ maxLen := hvm
             have HS := Lib.hid (show ∀ (w2 : World) (ob : Obj) (w5 : World), Below wr.heap.size wr w2 → (w2.alloc ob).grownBy w5 (Value.slice va k vc).ownBlock → w5.cell? ⟨cb, 7, none⟩ = some (.slice va k vc) ∧ w5.frozen? ⟨cb, 7, none⟩ = false from fun w2 ob w5 hb hg => by
               have h1 := H.out.below hb
               have hr : RowAt cb 105 (chainVs K2 sd (firstC 3 (List.replicate k pic0))) w5 := h1.ch.row.keep (((Keep.refl (fun b => K2.pv.ownBlock = some b) w2).alloc ob).grown hg (fun j hj => .inl (by rw [HV.out]; exact hj))) (fun e => H.out.ch.d0.2.2.2 (HOB.out _ e))
               have e : K2.pv = .slice va k vc := HV.out
               refine ⟨?_, hr.frozen 7⟩
               rw [← e]; exact hr.cell 7)
             clear o1 o2 o3 oblk hv hvc hlen f7a hcap hvm
             go_wp2_with fail
             go_region_law ((first
               | (refine step_append_sl rfl (.tmp 42) (.tmp 48) 48 rfl 0 28 i0 (.slice none 0 0) 24 Tryz.underlying48 hi hz0 hz1 hz2 rfl (.slice va k vc) vs rfl (OwnSl.alloc (HF.out w2 H2.out).2.2.2 _) ⟨_, 0, none⟩ (.slice (some ⟨wr.heap.size, 0, none⟩) 3 3) rfl (World.news_of_block (heap_alloc_new _ _)) (by intro u hu; simp at hu; subst hu; rfl) (by rw [HLN.out]; unfold maxLen; omega) (by rw [HLN.out]; omega) (Nat.zero_le _) ?_; intro v2 w5 ho5 hg5 hb5; obtain ⟨za, zc, hv2, -, -⟩ := ho5.shape; rw [List.length_append, HLN.out] at hv2; simp only [List.length_cons, List.length_nil, Nat.zero_add] at hv2; subst hv2; obtain ⟨m7, mf7⟩ := HS.out w2 _ w5 H2.out hg5)
               | (go_simp; go_at_call 55; refine (HPI.out _ ((Below.refl _ _).drewN 1)).mono ?_; rintro e w2 ⟨rfl, hb2, hrow⟩; have H2 := Lib.hid (btrans ((Below.refl _ _).drewN 1) hb2); obtain ⟨p1, p7, p7a, -⟩ := HF.out w2 H2.out; have p7b := p7a (.cells #[.slice (some ⟨wr.heap.size, 0, none⟩) 3 3] 28); clear p7a)))
             all_goals
               rw [HPQ.out] at hrow
               have hrl : wr.heap.size < w2.heap.size := hrow.lt
               have hw1 : Below wr.heap.size wr (w2.alloc (.cells #[.slice (some ⟨wr.heap.size, 0, none⟩) 3 3] 28)) := H2.out.alloc H2.out.size _
               have hgp : (w2.alloc (.cells #[.slice (some ⟨wr.heap.size, 0, none⟩) 3 3] 28)).grownBy w5 K2.pv.ownBlock := by rw [HV.out]; exact hg5
               have hR : RdI .i64 (w2.alloc (.cells #[.slice (some ⟨wr.heap.size, 0, none⟩) 3 3] 28)) (some ⟨wr.heap.size, 0, none⟩) 3 3 pic0 := RdI.of_rowAt (hrow.alloc _) (show 3 ≤ maxLen by decide)
               have hpics := PicsAt.appended (w := wr) (vs1 := vs) (u := .slice (some ⟨wr.heap.size, 0, none⟩) 3 3) (cb := cb) (m := 7) (x := .slice za (k + 1) zc) (pics := List.replicate k pic0) (z := pic0) (fun b hb => H.out.ch.pl b hb) HOB.out (by rw [HLN.out]; simp) HO3.out hw1 hgp ho5 (by rw [HV.out]; exact hb5) (fun g hg => (ho5.blk hg).2)
                 ⟨some ⟨wr.heap.size, 0, none⟩, 3, rfl, hR, fun a ha => by
                   cases ha
                   exact ⟨.inr ⟨Nat.le_refl _, by simp; omega⟩, fun e => Nat.lt_irrefl _ (H.out.ch.pl _ (HOB.out _ e))⟩⟩
                 H.out.ch.d0.2.2.2 H.out.ch.row.lt
               have hkp : Keep (fun b => K2.pv.ownBlock = some b) wr w5 := (Keep.of_below hw1).grown hgp (fun k hk => .inl hk)
               have hfin := H.out.pics hkp (fun b hb => HOB.out b hb) hpics
               have hN : firstC 3 (List.replicate (k + 1) pic0) = { firstC 3 (List.replicate k pic0) with pics := List.replicate k pic0 ++ [pic0] } := by rw [List.replicate_succ']; rfl
               rw [← hN] at hfin
               have HFIN := Lib.hid hfin
               clear hrow hrl hw1 hgp hR hpics hkp hfin hN ho5 hg5 hb5
               go_wp2_with fail
               have hg := HG.out
               go_roundg (3 - (k + 1))
               case measure => omega
               case rel => exact ⟨k + 1, _, by omega, by go_num, HFIN.out⟩
           · have hk3 : k = 3 := by have := HG.out; omega
             subst hk3
             go_wp2_with fail
             go_ret
             exact ⟨cb, K2, rfl, H.out⟩
end
end Go.Proofs.YtajnfkmkombajaaGreatDoor
namespace Go.Proofs.YtajnfkmkombajaaGreatDoor
open Go.RowKit Go.ChangeShapes
set_option maxRecDepth 100000 in
theorem sents_vars {W : World} (PS : List MemPlace) (hrows : ∀ b off, MemPlace.cell b off ∈ PS → (∃ c t, W.heap[b]? = some (.cells c t (0, 0))) ∧ ∀ u v, W.cell? ⟨b, off, none⟩ = some (.iface u v) → Value.okWide Tryz.prog W .any 0 u v) :
   ∀ (cs : List Nat) (l : List (String × DataW Unit)) (ps : List MemPlace), LaidAs cs l → DataW.LaidVars Tryz.prog W l ps → ps.Nodup → (∀ x ∈ ps, x ∈ PS) →
   ∃ A : Nat → Addr, (∀ c ∈ cs, W.cell? ⟨gE c, 0, none⟩ = some (ev A c)) ∧ (∀ c ∈ cs, MemPlace.cell (A c).block (A c).off ∈ ps) ∧ ∀ c ∈ cs, ∀ d ∈ cs, c ≠ d → A c ≠ A d
 | [], [], _, _, _, _, _ => ⟨fun _ => ⟨0, 0, none⟩, (fun c hc => by cases hc), (fun c hc => by cases hc), fun c hc => by cases hc⟩
 | c :: cs, (n, d) :: r, ps, ⟨⟨h0, h1, h2, h3, text, h4⟩, hr⟩, hv, hnd, hsub => by
   obtain ⟨g, t, xs, fuel, p, q, e1, e2, e3, e4, hq, rfl⟩ := hv
   simp only at h4 h2
   subst h4
   obtain rfl := Option.some.inj (h2.symm.trans e1)
   obtain rfl := Option.some.inj (h3.symm.trans e2)
   obtain ⟨l0⟩ := xs
   have ok0 : ∀ u v, l0 = [.iface u v] → Value.okWide Tryz.prog W .any 0 u v := fun u v e => by
     subst e
     exact (hrows (gE c) 0 (hsub _ (by simp [MemPlace.row]))).2 u v (by simpa using World.var?_cell e1 e3 0)
   obtain ⟨a0, s0, rfl, hc0, hs0, hz0, rfl⟩ := errorString_of_trod Tryz.underlying35 Tryz.rowErr Tryz.underlying288 Tryz.underlying290 rfl rfl Tryz.underlying9 Tryz.cellsErr Tryz.cellsStr e4 ok0
   have hnq : q.Nodup := (List.nodup_append.1 hnd).2.1
   obtain ⟨A, hA1, hA2, hA3⟩ := sents_vars PS hrows cs r q hr hq hnq (fun x hx => hsub x (by simp [hx]))
   refine ⟨fun k => if k = c then a0 else A k, fun k hk => ?_, fun k hk => ?_, fun k hk j hj hkj => ?_⟩
   · by_cases hkc : k = c
     · subst hkc
       have := World.var?_cell e1 e3 0
       rw [ev_some _ h0]
       simpa using this
     · have hk' : k ∈ cs := by simpa [hkc] using hk
       have := hA1 k hk'
       rw [this]; simp [ev, hkc]
   · by_cases hkc : k = c
     · subst hkc; simp only [if_true]; exact List.mem_append_left _ (by simp [MemPlace.row])
     · simp only [if_neg hkc]; exact List.mem_append_right _ (hA2 k (by simpa [hkc] using hk))
   · have far : ∀ m ∈ cs, A m ≠ a0 := by
       intro m hm e
       have h1 := hA2 m hm
       rw [e] at h1
       exact (List.nodup_append.1 hnd).2.2 _ (by simp [MemPlace.row]) _ h1 rfl
     by_cases hkc : k = c
     · have hjc : j ≠ c := fun e => hkj (by rw [hkc, e])
       simp only [if_pos hkc, if_neg hjc]
       exact fun e => far j (by simpa [hjc] using hj) e.symm
     · by_cases hjc : j = c
       · simp only [if_neg hkc, if_pos hjc]
         exact far k (by simpa [hkc] using hk)
       · simp only [if_neg hkc, if_neg hjc]
         exact hA3 k (by simpa [hkc] using hk) j (by simpa [hjc] using hj) hkj
 | [], _ :: _, _, h, _, _, _ => h.elim
 | _ :: _, [], _, h, _, _, _ => h.elim
def errorName : List UInt8 := [101, 114, 114, 111, 114]
theorem only_error : ((List.range Tryz.prog.types.size).all fun ty => !Tryz.prog.rowNamed ty errorName || ty == 35) = true := by kernel_rfl
theorem rtype_at : (Tryz.prog.cutTypes.find? (·.1 == "internal/reflectlite.rtype")).map (·.2) = some 204 := by kernel_rfl
theorem globals_size : Tryz.prog.globals.size = 26 := by kernel_rfl
theorem sents_of_laid {W : World} {L : List (String × DataW Unit)} (hL : laidMetH Tryz.prog L W) (h1 : LaidAs [1, 2, 3, 4, 5, 6, 7, 8, 9, 10] (L.filter fun x => x.2.handleName?.isNone))
   (h2 : ("errors.errorType", DataW.iface "internal/reflectlite.rtype" (.agg [.ptr (.lit (.string errorName))])) ∈ L) (h3 : Tryz.prog.globalNamed "errors.errorType" = some 3) : ∃ A, Sents A W := by
 obtain ⟨hm, hh⟩ := laidMetH_iff.1 hL
 obtain ⟨ps, hv, hnd, hrows⟩ := hm
 obtain ⟨A, a1, a2, a3⟩ := sents_vars ps hrows _ _ ps h1 hv hnd (fun x hx => hx)
 refine ⟨A, ⟨⟨a1⟩, ?_, fun c c1 c2 => ?_, fun c d c1 c2 d1 d2 hcd => a3 c (by simp; omega) d (by simp; omega) hcd⟩⟩
 · have := hh _ (List.mem_filter.2 ⟨h2, by rfl⟩)
   have hf : (DataW.iface (H := Unit) "internal/reflectlite.rtype" (.agg [.ptr (.lit (.string errorName))])).funcsIn? = none := by kernel_rfl
   rw [show (("errors.errorType", DataW.iface (H := Unit) "internal/reflectlite.rtype" (.agg [.ptr (.lit (.string errorName))])) : String × DataW Unit).2.funcsIn? = none from hf] at this
   obtain ⟨name, u, ty, e1, e2, e3, e4, e5⟩ := this
   have hn : name = errorName := by
     have h0 : (DataW.iface (H := Unit) "internal/reflectlite.rtype" (.agg [.ptr (.lit (.string errorName))])).handleName? = some errorName := by kernel_rfl
     exact Option.some.inj (e1.symm.trans h0)
   subst hn
   rw [rtype_at] at e2
   obtain rfl := Option.some.inj e2
   have hty : ty = 35 := by
     have := List.all_eq_true.1 only_error ty (List.mem_range.2 e3)
     rw [e4] at this
     simpa using this
   subst hty
   have := World.var?_cell h3 e5 0
   unfold ErrType
   simpa [typeHandle, globals_size] using this
 · obtain ⟨cs, t, hc⟩ := (hrows _ _ (a2 c (by simp; omega))).1
   exact ⟨cs, t, hc⟩
end Go.Proofs.YtajnfkmkombajaaGreatDoor
