/-
  A chain's pictures turn: the first goes, one comes.
  The walk of a cycle's end.
  Plain: what a block's reward is, and what it leaves; how far supply may grow. No program in sight.
  A chain: a block is baked.
-/
import Derived.Test.YtajnfkmkombajabGreatDoorQSR21
import Derived.Test.YtajnfkmkombajabGreatDoorQSR03
import Derived.Deep.Onto
import Derived.Test.YtajnfkmkombajabGreatDoorQSR15
set_option linter.unusedVariables false
set_option linter.unusedSimpArgs false
set_option linter.unusedVariables false
namespace Go.Proofs.YtajnfkmkombajabGreatDoor
open Go.RowKit Go.Maps

theorem foldl_max3 (a b c : Int) (ha : 0 ≤ a) (hb : 0 ≤ b) (hc : 0 ≤ c) : (Lib.maxOf ([a, b, c].take 3) = 0) ↔ ([a, b, c] = [0, 0, 0]) := by
  unfold Lib.maxOf
  simp only [List.take_succ_cons, List.take_nil, List.headD_cons, List.foldl_cons, List.foldl_nil, List.cons.injEq, and_true]
  omega
theorem pic_max {s : SS} (h : s.Ok) : (Lib.maxOf (s.picture.take 3) = 0) ↔ (s.picture = [0, 0, 0]) := by
  obtain ⟨h0, h1, h2, _⟩ := SS.staked_bd h
  exact foldl_max3 _ _ _ (pic1_bd _ h0).1 (pic1_bd _ h1).1 (pic1_bd _ h2).1

section
variable {W w w1 w3 : World} {F : Nat → Prop} {cb n sd : Nat} {K : ChL} {x : CS}
/-- the pictures' slice and blocks alone have turned -/
theorem ChGo.pics (h : ChGo W F cb K n sd x w) {G : Nat → Prop} (k : Keep G w w3) (hG : ∀ b, G b → K.Fp b) {pv2 : Value} {pics2 : List (List Int)} (hp : PicsAt (grownF K.Fp w w3) pv2 pics2 (w3.setCell ⟨cb, 7, none⟩ pv2)) :
    ChGo W F cb { K with Fp := grownF K.Fp w w3, pv := pv2 } n sd { x with pics := pics2 } (w3.setCell ⟨cb, 7, none⟩ pv2) := by
  have c := h.ch
  have k5 : Keep (fun b => G b ∨ b = cb) w (w3.setCell ⟨cb, 7, none⟩ pv2) := (k.mono (fun b hb => .inl hb)).setCell (p := ⟨cb, 7, none⟩) (.inl (.inr rfl)) pv2
  have hs : (w3.setCell ⟨cb, 7, none⟩ pv2).heap.size = w3.heap.size := by simp [World.setCell]
  have hcb := c.row.lt
  have hpb : K.pb < w.heap.size := c.purse.lt
  have hrow : RowAt cb 54 (chainVs K sd x) w3 := c.row.keep k (fun e => c.d0.2.2.2 (hG _ e))
  refine h.step k5 (fun b hb => ?_) ⟨hrow.set 7 pv2, c.purse.keep k5 ?_, c.st.keep k5 (fun b hb e => ?_), c.ct.keep k5 (fun b hb e => ?_), hp, fun b hb => ?_, ⟨c.d0.1, c.d0.2.1, c.d0.2.2.1, ?_⟩, ⟨c.d1.1, c.d1.2.1, ?_⟩, fun b hb => ⟨(c.d2 b hb).1, ?_⟩, fun b hb => ?_⟩ (fun b hb => ?_)
  · rcases hb with hb | hb
    · exact .inr (.inr (.inr (.inr (hG b hb))))
    · exact .inl hb
  · rintro (e | e)
    · exact c.d1.2.2 (hG _ e)
    · exact c.d0.1 e.symm
  · rcases e with e | e
    · exact (c.d2 b hb).2 (hG b e)
    · exact c.d0.2.1 (by rw [← e]; exact hb)
  · rcases e with e | e
    · exact c.d3 b hb (hG b e)
    · exact c.d0.2.2.1 (by rw [← e]; exact hb)
  · rw [hs]
    rcases hb with hb | hb
    · exact Nat.lt_of_lt_of_le (c.pl b hb) k.size
    · exact hb.2
  · rintro (e | e)
    · exact c.d0.2.2.2 e
    · omega
  · rintro (e | e)
    · exact c.d1.2.2 e
    · have := e.1; simp only at this; omega
  · rintro (e | e)
    · exact (c.d2 b hb).2 e
    · have := c.st.lt hb; omega
  · rintro (e | e)
    · exact c.d3 b hb e
    · have := c.ct.lt b hb; omega
  · rcases hb with hb | hb | hb | hb | hb
    · exact .inl (.inl hb)
    · exact .inl (.inr (.inl hb))
    · exact .inl (.inr (.inr (.inl hb)))
    · exact .inl (.inr (.inr (.inr (.inl hb))))
    · rcases hb with hb | hb
      · exact .inl (.inr (.inr (.inr (.inr hb))))
      · exact .inr ⟨hb.1, by rw [hs]; exact hb.2⟩

/-- what is left behind an append to the pictures without their first (or all of them) -/
theorem PicsAt.appended {Fp : Nat → Prop} {pv pv2 u : Value} {pics : List (List Int)} {vs1 : List Value} {z : List Int} {x : Value} {m : Nat}
    (hl : ∀ b, Fp b → b < w.heap.size) (hblk : ∀ g, pv.ownBlock = some g → Fp g) (hlen : vs1.length = pics.length)
    (h1 : ∀ (i : Nat) v z, vs1[i]? = some v → pics[i]? = some z → ∃ ao cap, v = .slice ao z.length cap ∧ RdI .i64 w ao z.length cap z ∧ ∀ a, ao = some a → Fp a.block ∧ pv.ownBlock ≠ some a.block)
    (hb1 : Below w.heap.size w w1) (hg : w1.grownBy w3 pv.ownBlock) (ho : OwnSl 0 58 pv2 (vs1 ++ [u]) w3) (hor : pv2.ownBlock = pv.ownBlock ∨ pv2.ownBlock = some w1.heap.size) (hsz : ∀ g, pv2.ownBlock = some g → g < w3.heap.size)
    (hu : ∃ pa pc, u = .slice pa z.length pc ∧ RdI .i64 w1 pa z.length pc z ∧ ∀ a, pa = some a → (Fp a.block ∨ (w.heap.size ≤ a.block ∧ a.block < w1.heap.size)) ∧ pv.ownBlock ≠ some a.block)
    (hcb : ¬ Fp cb) (hcbl : cb < w.heap.size) : PicsAt (grownF Fp w w3) pv2 (pics ++ [z]) (w3.setCell ⟨cb, m, none⟩ x) := by
  have hs1 := hb1.size
  have hs3 := hg.size
  have K1 : Keep (fun b => pv.ownBlock = some b) w w3 := (Keep.of_below hb1).grown hg (fun k hk => .inl hk)
  have K2 : Keep (fun b => pv.ownBlock = some b) w1 w3 := (Keep.refl _ _).grown hg (fun k hk => .inl hk)
  have hpn : ∀ g, pv2.ownBlock = some g → Fp g ∨ g = w1.heap.size := fun g hg' => by
    rcases hor with h | h
    · exact .inl (hblk g (by rw [← h]; exact hg'))
    · rw [h] at hg'; exact .inr (by simpa using hg'.symm)
  have hset : ∀ G, Keep G w3 (w3.setCell ⟨cb, m, none⟩ x) → True := fun _ _ => trivial
  have K3 : Keep (fun b => b = cb) w3 (w3.setCell ⟨cb, m, none⟩ x) := (Keep.refl _ _).put x
  refine ⟨⟨vs1 ++ [u], ho.keep K3 (fun g hg' e => ?_), by simp [hlen], fun i v z' hv hz => ?_⟩, fun g hg' => ?_⟩
  · rcases hpn g hg' with h | h
    · exact hcb (by rw [← e]; exact h)
    · omega
  · by_cases hi : i < vs1.length
    · rw [List.getElem?_append_left hi] at hv
      rw [List.getElem?_append_left (by omega)] at hz
      obtain ⟨ao, cap, e, R, hb⟩ := h1 i v z' hv hz
      refine ⟨ao, cap, e, (R.keep K1 (fun a ha he => (hb a ha).2 he)).keep K3 (fun a ha he => hcb (by rw [← he]; exact (hb a ha).1)), fun a ha => ⟨.inl (hb a ha).1, fun he => ?_⟩⟩
      rcases hor with h | h
      · exact (hb a ha).2 (by rw [← h]; exact he)
      · rw [h] at he
        have : w1.heap.size = a.block := by simpa using he
        have := hl _ (hb a ha).1
        omega
    · rw [List.getElem?_append_right (by omega)] at hv hz
      have hi0 : i - vs1.length = 0 := by
        have := (List.getElem?_eq_some_iff.1 hv).1; simp at this; omega
      rw [hi0] at hv
      rw [← hlen, hi0] at hz
      simp at hv hz
      subst hv hz
      obtain ⟨pa, pc, e, R, hb⟩ := hu
      refine ⟨pa, pc, e, (R.keep K2 (fun a ha he => (hb a ha).2 he)).keep K3 (fun a ha he => ?_), fun a ha => ⟨?_, fun he => ?_⟩⟩
      · rcases (hb a ha).1 with h | h
        · exact hcb (by rw [← he]; exact h)
        · omega
      · rcases (hb a ha).1 with h | h
        · exact .inl h
        · exact .inr ⟨h.1, by omega⟩
      · rcases hor with h | h
        · exact (hb a ha).2 (by rw [← h]; exact he)
        · rw [h] at he
          have : w1.heap.size = a.block := by simpa using he
          rcases (hb a ha).1 with h' | h'
          · have := hl _ h'; omega
          · omega
  · rcases hpn g hg' with h | h
    · exact .inl h
    · exact .inr ⟨by omega, hsz g hg'⟩
end
theorem RdI.keepX {F : Nat → Prop} {k : IntKind} {w w' : World} {ao : Option Addr} {len cap : Nat} {zs : List Int} (h : RdI k w ao len cap zs) (K : Keep F w w') (hF : ∀ a, ao = some a → ¬ F a.block) : RdI k w' ao len cap zs := h.keep K hF
theorem infoSl : (Tryz.prog.info? 58).map (fun i => (i.zero, i.size, i.bytes)) = some (some (.slice none 0 0), 1, 24) := by kernel_rfl
end Go.Proofs.YtajnfkmkombajabGreatDoor
namespace Go.Proofs.YtajnfkmkombajabGreatDoor
open Go.RowKit Go.Maps

theorem share_pos {n : Int} (h : 0 ≤ n) : shareA n = n / 7 ∧ shareB n = n - n / 7 := ⟨if_neg (by omega), if_neg (by omega)⟩

theorem CS.endOp_of {x y : CS} (h : { x.judged with k := x.k.asked } = y) : x.endOp = { y with bonus := bonusN y.bonus y.ratio, cycle := y.cycle + 1, pics := y.pics.drop 1 ++ [y.newPic] } := by subst h; rfl
theorem CS.judged_cycle (x : CS) : x.judged.cycle = x.cycle := (CS.judges_pics _ _).2.1

section
variable (A : Nat → Addr) (S : List Nat) (W : World) (F : Nat → Prop) (cb : Nat) (K : ChL) (n sd : Nat) (x : CS) (w : World)
set_option maxRecDepth 8000 in
set_option maxHeartbeats 2000000 in
theorem chain_end (h : ChGo W F cb K n sd x w) (hx : x.Inv) (hE : Errs A S W) (hFE : ∀ c ∈ S, ¬ F (gE c)) (h2 : 2 ∈ S) (h4 : 4 ∈ S) (h6 : 6 ∈ S) (hW : x.s.W.length ≤ 8000) (hn : n ≤ 1000000) (hk : x.k.L.length ≤ 1000000) (hcy : x.cycle ≤ 9223372036854775806) :
    Calls Tryz.prog 117 #[.pointer (some ⟨cb, 0, none⟩)] w fun e w' => e = .returned (.tuple #[]) ∧ ∃ K', ChGo W F cb K' n sd x.endOp w' := by
  have H0 := Lib.hid h
  have HEE := Lib.hid (And.intro hE hFE)
  have HX := Lib.hid hx
  have c2 := h.c2
  have hdl : x.k.due.length ≤ 1000000 := by unfold KS.due; rw [List.length_drop]; omega
  clear h hx hE hFE
  go_enter Tryz.func117, Tryz.ntmps117
  go_wp2_with fail
  refine (court_Due K.kb K.Fk n x.k _ H0.out.ch.ct hk).mono ?_
  rintro e w1 ⟨v, rfl, ho, hK, hc⟩
  have HS0 := Lib.hid (show EndS W F cb (K.withK w w1) n sd { x with k := x.k.asked } v x.k.due w1 from
    ⟨H0.out.court (Nat.le_refl n) ⟨hK, hc.foot (fun _ hb => .inl hb) (grownF_lt (fun _ hb => H0.out.ch.ct.lt _ hb) hK.size)⟩, ho.mono (Nat.zero_le _), fun g hg => .inr (ho.lt g hg)⟩)
  obtain ⟨va, vc, rfl⟩ := own_shape ho
  clear ho hK hc c2
  go_wp2_with fail
  go_loopg [15] x.k.due.length (fun g i wr => ∃ (j : Nat) (K' : ChL), g + j = x.k.due.length ∧ i = .int .i64 j ∧ EndS W F cb K' n sd (x.judgedK j) (.slice va x.k.due.length vc) x.k.due wr)
  case atStart => exact ⟨0, _, rfl, rfl, HS0.out⟩
  case round =>
    clear HS0
    obtain ⟨j, K1, hg, rfl, hs⟩ := hrel
    have HS := Lib.hid hs; have HG := Lib.hid hg; clear hs hg
    by_cases hj : j < x.k.due.length
    · obtain ⟨c, hc⟩ : ∃ c, x.k.due[j]? = some c := ⟨_, List.getElem?_eq_getElem hj⟩
      obtain ⟨b7, off7, rfl, hbl7, hcs7⟩ := (RdR.of_row (enc := caseE) (fun _ => rfl) (by decide) HS.out.row).cells j c hc
      have htc := (RdR.of_row (enc := caseE) (fun _ => rfl) (by decide) HS.out.row).lc
      have t0 := hcs7 0 (by decide)
      have t1 := hcs7 1 (by decide)
      have t2 := hcs7 2 (by decide)
      have t3 := hcs7 3 (by decide)
      simp only [caseE, List.getElem?_cons_zero, List.getElem?_cons_succ, Nat.add_zero] at t0 t1 t2 t3
      have HSTEP := Lib.hid (CS.judgedK_step x j c hc)
      have HZ := Lib.hid (CS.judgedK_inv HX.out j)
      have HZW := Lib.hid (show (x.judgedK j).s.W.length ≤ 8000 by rw [CS.judgedK_len]; exact hW)
      obtain ⟨l1, l2, -⟩ := SS.slash_total HZ.out.s c.2.b c.2.c (pct c.2.n)
      have tb := HZ.out.s.total_bd
      have tb2 : (x.judgedK j).s.total ≤ 1125899906842624 := by have := HZ.out.bal; have := HZ.out.p.most; have := HZ.out.p.sum_bd; omega
      have tb3 := (SS.slashOp_ok HZ.out.s c.2.b c.2.c (pct c.2.n)).total_bd.1
      have hlost : 0 ≤ ((x.judgedK j).s.slashOp c.2.b c.2.c (pct c.2.n)).1 ∧ ((x.judgedK j).s.slashOp c.2.b c.2.c (pct c.2.n)).1 ≤ 1125899906842624 := by omega
      have HLO := Lib.hid hlost
      clear hcs7 hc l1 l2 tb tb2 tb3 hlost
      generalize x.judgedK j = z at *
      obtain ⟨wb, hwb⟩ : ∃ wb, wr.alloc (.cells #[.int .i64 c.1, .int .i64 c.2.b, .int .i64 c.2.c, .int .i64 c.2.n] 162) = wb := ⟨_, rfl⟩
      have hbx := HS.out.box c 162
      rw [hwb] at hbx
      have HB := Lib.hid hbx; clear hbx
      have hlt := HS.out.go.keep.size
      generalize x.k.due.length = dl at *
      go_upto_region 3 with fail
      have e0 := HB.out.s.go.c1; have e1 := HB.out.b1; have e2 := HB.out.b2; have e3 := HB.out.b3
      go_cut [4, 5] (fun s4 _ wx => ∃ K2, s4 = .int .i64 (z.s.slashOp c.2.b c.2.c (pct c.2.n)).1 ∧ EndB W F cb K2 n sd { z with s := (z.s.slashOp c.2.b c.2.c (pct c.2.n)).2.2 } (.slice (some ⟨b7, off7, none⟩) dl vc) x.k.due wr.heap.size c wx)
      case first =>
        have HSL := Lib.hid (stake_Slash A S K1.sb n K1.Fs z.s c.2.b c.2.c (pct c.2.n) (wb.drewN 1) (HB.out.below ((Below.refl _ _).drewN 1)).s.go.ch.st ((HB.out.below ((Below.refl _ _).drewN 1)).s.go.errs HEE.out.1 HEE.out.2) h2 h4 (fun c hc hf => HB.out.s.go.fs HEE.out.1 HEE.out.2 c hc (.inr (.inr (.inl hf)))) HZW.out hn)
        go_region_held3 (fun wx => wx.cell? ⟨cb, 1, none⟩ = some (.pointer (some ⟨K1.sb, 0, none⟩)) ∧ wx.cell? ⟨wr.heap.size, 1, none⟩ = some (.int .i64 c.2.b) ∧ wx.cell? ⟨wr.heap.size, 2, none⟩ = some (.int .i64 c.2.c) ∧ wx.cell? ⟨wr.heap.size, 3, none⟩ = some (.int .i64 c.2.n)) (first | exact ⟨H1.out.s.go.c1, H1.out.b1, H1.out.b2, H1.out.b3⟩ | exact ⟨e0, e1, e2, e3⟩)
          (first
            | (go_at_call 140; refine (court_Percent c.2.n _).mono ?_; rintro y wp ⟨rfl, rfl⟩)
            | (go_at_call 139; refine HSL.out.mono ?_; rintro y w2 ⟨rfl, ka⟩; have H1 := Lib.hid ((HB.out.below ((Below.refl _ _).drewN 1)).stakes ka)))
        all_goals go_wp2_with fail
        all_goals go_meet
        all_goals (case rel => exact ⟨_, rfl, H1.out⟩)
      case rest =>
        obtain ⟨K2, rfl, hB2⟩ := hcut
        have HB2 := Lib.hid hB2; clear hB2 e0 e1 e2 e3 HB hwb
        obtain ⟨sp1, sp2⟩ := share_pos HLO.out.1
        have HJ := Lib.hid (show z.judge c = { z with s := (z.s.slashOp c.2.b c.2.c (pct c.2.n)).2.2, p := ((z.p.inOp c.1 ((z.s.slashOp c.2.b c.2.c (pct c.2.n)).1 / 7)).2.burnOp ((z.s.slashOp c.2.b c.2.c (pct c.2.n)).1 - (z.s.slashOp c.2.b c.2.c (pct c.2.n)).1 / 7)).2 } from rfl)
        have hls := HLO.out.2
        generalize (z.s.slashOp c.2.b c.2.c (pct c.2.n)).2.2 = st at *
        generalize (z.s.slashOp c.2.b c.2.c (pct c.2.n)).1 = lost at *
        have SP1 := Lib.hid sp1; have SP2 := Lib.hid sp2; clear sp1 sp2
        go_wp2_with fail
        refine (court_Share lost (by omega) _).mono ?_
        rintro y w3 ⟨rfl, rfl⟩
        rw [SP1.out, SP2.out]
        clear hls
        generalize lost / 7 = la at *
        generalize lost - la = lb at *
        have e0 := HB2.out.s.go.c0; have e1 := HB2.out.b0
        go_upto_region 5 with fail
        go_cut [49] (fun _ wx => EndB W F cb K2 n sd { z with s := st, p := (z.p.inOp c.1 la).2 } (.slice (some ⟨b7, off7, none⟩) dl vc) x.k.due wr.heap.size c wx)
        case first =>
          have HIN := Lib.hid (purse_In A S K2.pb z.p c.1 la (wc.drewN 1) ((HB2.out.below ((Below.refl _ _).drewN 1)).s.go.errs HEE.out.1 HEE.out.2) h2 h6 (HB2.out.below ((Below.refl _ _).drewN 1)).s.go.ch.purse)
          go_region_held3 (fun wx => wx.cell? ⟨cb, 0, none⟩ = some (.pointer (some ⟨K2.pb, 0, none⟩)) ∧ wx.cell? ⟨wr.heap.size, 0, none⟩ = some (.int .i64 c.1)) (first | exact ⟨H1.out.s.go.c0, H1.out.b0⟩ | exact ⟨e0, e1⟩)
            ((go_at_call 33; refine HIN.out.mono ?_; rintro y w2 ⟨rfl, ka⟩; have H1 := Lib.hid ((HB2.out.below ((Below.refl _ _).drewN 1)).purse ka)))
          all_goals go_wp2_with fail
          all_goals go_meet
          all_goals (case rel => exact H1.out)
        case rest =>
          rename World => wd
          have HB3 := Lib.hid hcut; clear hcut HB2 e0 e1
          have e0 := HB3.out.s.go.c0
          go_wp2_with fail
          refine (purse_Burn A S K2.pb (z.p.inOp c.1 la).2 lb _ (HB3.out.s.go.errs HEE.out.1 HEE.out.2) h2 h6 HB3.out.s.go.ch.purse).mono ?_
          rintro y w4 ⟨rfl, ka⟩
          have HB4 := Lib.hid (HB3.out.purse ka); clear ka
          have HN := Lib.hid (show x.judgedK (j + 1) = { z with s := st, p := ((z.p.inOp c.1 la).2.burnOp lb).2 } by rw [HSTEP.out, HJ.out])
          go_wp2_with fail
          have hg := HG.out
          go_roundg (dl - (j + 1))
          case measure => omega
          case rel => exact ⟨j + 1, K2, by omega, by go_num, by rw [HN.out]; exact HB4.out.s⟩
    · have hjd : j = x.k.due.length := by have := HG.out; omega
      have HJA := CS.judgedK_all x
      rw [← hjd] at HJA
      obtain ⟨y, hy⟩ : ∃ y : CS, { x.judged with k := x.k.asked } = y := ⟨_, rfl⟩
      have HY := Lib.hid (CS.endOp_of hy)
      have hyc : y.cycle = x.cycle := by rw [← hy]; exact CS.judged_cycle x
      rw [hy] at HJA
      have hgo := HS.out.go
      have hinv := CS.judgedK_inv HX.out j
      rw [HJA] at hgo hinv
      have H1 := Lib.hid hgo
      have HI := Lib.hid hinv
      have hdj := HG.out
      rw [← hyc] at hcy
      clear hgo hinv HS HJA hjd hy hyc
      have e6 := H1.out.c6
      go_upto_region 8 with fail
      go_cut [57] (fun _ wx => ChGo W F cb K1 n sd { y with bonus := bonusN y.bonus y.ratio } wx)
      case first =>
        have HRT := Lib.hid (chain_ratio A S W F cb K1 n sd y (wr.drewN 1) (H1.out.drewN 1) HI.out HEE.out.1 HEE.out.2 h2)
        go_region_with (first
          | (go_at_call 135; refine HRT.out.mono ?_; rintro e w2 ⟨rfl, d1⟩; have HA := Lib.hid ((H1.out.drewN 1).dr d1); have q6 := HA.out.c6)
          | (go_at_call 143; refine (issue_Bonus A S y.bonus y.ratio _ (HA.out.errs HEE.out.1 HEE.out.2) h2).mono ?_; rintro e w3 ⟨rfl, d2⟩; have HB := Lib.hid (HA.out.dr d2); have r6 := HB.out.c6; have f6 := HB.out.ch.row.frozen 6))
        all_goals go_wp2_with fail
        all_goals go_meet
        all_goals (case rel => exact HB.out.put (i := 6) rfl rfl rfl rfl rfl)
      case rest =>
        have H2 := Lib.hid hcut; clear hcut e6 H1
        have e4 := H2.out.c4; have f4 := H2.out.ch.row.frozen 4
        simp only at e4
        have hcy0 := HI.out.cy
        have H3 := Lib.hid (H2.out.put (i := 4) (v := .int .i64 (y.cycle + 1)) (y := { y with bonus := bonusN y.bonus y.ratio, cycle := y.cycle + 1 }) rfl rfl rfl rfl rfl)
        have e1 := H3.out.c1
        go_wp2_with fail
        refine (right_Picture K1.sb n K1.Fs y.s _ H3.out.ch.st).mono ?_
        rintro e w2 ⟨rfl, hb2, hrow⟩
        obtain ⟨y2, hy2⟩ : ∃ y2 : CS, { y with bonus := bonusN y.bonus y.ratio, cycle := y.cycle + 1 } = y2 := ⟨_, rfl⟩
        have HE2 := Lib.hid (show x.endOp = { y2 with pics := y2.pics.drop 1 ++ [y2.newPic] } by rw [HY.out, ← hy2]; rfl)
        have hys : y2.s = y.s := by rw [← hy2]
        have hyp : y2.pics = y.pics := by rw [← hy2]
        have hthree : y2.pics.length = 3 := by rw [hyp]; exact HI.out.three
        have h3 := H3.out
        rw [hy2] at h3
        have H3' := Lib.hid h3
        have hpm := pic_max HI.out.s
        rw [← hys] at hpm hrow
        clear h3 hy2 hys hyp e1 e4 f4 HY HI hcy0 hcy H2 H3
        generalize wc.setCell ⟨cb, 4, none⟩ (.int .i64 (y.cycle + 1)) = wx at *
        have hbx := H3'.out.ch.footlt
        generalize hB : wx.heap.size = B at *
        have H4 := Lib.hid (H3'.out.below (by rw [hB]; exact hb2))
        have hBl : B < w2.heap.size := hrow.lt
        have hbw : Below wx.heap.size wx w2 := by rw [hB]; exact hb2
        obtain ⟨vs, o1w, o2, o3⟩ := H3'.out.ch.pics.own
        have o1 := o1w.keep (Keep.of_below (F := fun _ => False) hbw) (fun _ _ => id)
        have oblk := H3'.out.ch.pics.blk
        match vs, (o2.trans hthree) with
        | [v0, va1, vb1], _ =>
        obtain ⟨mx, hmxe⟩ : ∃ mx, Lib.maxOf (y2.s.picture.take 3) = mx := ⟨_, rfl⟩
        have hmx := Tryz.slices_Max_int B 0 3 3 y2.s.picture w2 (by decide) (Nat.le_refl 3) (by decide) (fun j hj => by
          rw [Nat.zero_add, hrow.cell, List.getElem?_map, List.getElem?_eq_getElem hj]; simp [hj])
        rw [hmxe] at hmx hpm
        have HPM := Lib.hid hpm; clear hpm
        have HMX := Lib.hid hmx; clear hmx hmxe
        obtain ⟨g, off, cp, hv, -, hgl, hcp, hcm, hcell⟩ := o1.cells (by simp)
        simp only [List.length_cons, List.length_nil, Nat.zero_add, Nat.reduceAdd] at hv hcp hcell
        have hz2 : y2.pics[2]? = some (y2.pics.getD 2 []) := by
          rw [List.getD_eq_getElem?_getD, List.getElem?_eq_getElem (by rw [hthree]; decide)]; rfl
        obtain ⟨qa, qc, qe, QR, qb⟩ := o3 2 vb1 _ rfl hz2
        have h2c := hcell 2 (by decide)
        simp only [List.getElem?_cons_succ, List.getElem?_cons_zero] at h2c
        rw [qe] at h2c
        have hnB : ¬ K1.Fp B := fun hf => by have := H3'.out.ch.pl B hf; omega
        have hgB : g ≠ B := fun e => hnB (by rw [← e]; exact oblk g (by rw [hv]; rfl))
        have HQ := Lib.hid (And.intro (QR.below hbw) qb); have HBW := Lib.hid hbw; clear QR qb qe hbw o1w
        have HROW := Lib.hid hrow; clear hrow hcell
        have HO1 := Lib.hid o1; have HO3 := Lib.hid o3; have HOB := Lib.hid oblk; clear o1 o3 oblk
        have e7 := H4.out.c7
        rw [hv] at e7
        have HVV := Lib.hid hv; clear hv
        have HT3 := Lib.hid hthree; clear hthree o2 hz2
        go_wp2_with fail
        refine HMX.out.mono ?_
        rintro e w4 ⟨rfl, hw4⟩
        rw [hw4]
        clear hw4
        go_upto_if 84 with fail
        go_cut [8] (fun p wz => ∃ pa pc d, p = .slice pa y2.newPic.length pc ∧ wz = w2.drewN d ∧ RdI .i64 w2 pa y2.newPic.length pc y2.newPic ∧ ∀ a, pa = some a → (K1.Fp a.block ∨ (B ≤ a.block ∧ a.block < w2.heap.size)) ∧ K1.pv.ownBlock ≠ some a.block)
        case first =>
          by_cases hz : y2.s.picture = [0, 0, 0]
          · have hm0 : (mx == 0) = true := by rw [HPM.out.2 hz]; rfl
            have HNP := Lib.hid (show y2.newPic = y2.pics.getD 2 [] from if_pos hz)
            clear hz
            have HQL := Lib.hid (rfl : (y2.pics.getD 2 []).length = (y2.pics.getD 2 []).length)
            generalize hql : (y2.pics.getD 2 []).length = ql at h2c
            go_wp2_with fail
            go_quiet (fail)
            go_wp2_with fail
            go_meet
            case rel => exact ⟨qa, qc, nq, by rw [HNP.out, hql], rfl, by rw [HNP.out]; exact HQ.out.1, fun a ha => ⟨.inl (HQ.out.2 a ha).1, (HQ.out.2 a ha).2⟩⟩
          · have hm0 : (mx == 0) = false := by
              cases h : mx == 0 with
              | false => rfl
              | true => exact absurd (HPM.out.1 (by simpa using h)) hz
            have HNP := Lib.hid (show y2.newPic = y2.s.picture from if_neg hz)
            clear hz
            go_wp2_with fail
            go_meet
            case rel => exact ⟨some ⟨B, 0, none⟩, 3, 0, by rw [HNP.out]; rfl, rfl, by rw [HNP.out]; exact RdI.of_rowAt HROW.out (show 3 ≤ maxLen by decide), fun a ha => by
              cases ha
              exact ⟨.inr ⟨Nat.le_refl _, hBl⟩, fun e => by rw [HVV.out] at e; simp [Value.ownBlock] at e; exact hgB e⟩⟩
        case rest =>
          obtain ⟨pa, pc, d, rfl, rfl, hR, hab⟩ := hcut
          obtain ⟨i0, hi, hz0, hz1, hz2⟩ := info_parts infoSl
          have HE7 := Lib.hid H4.out
          have ho1 := HO1.out
          rw [HVV.out] at ho1
          obtain ⟨v', hsl, htl, ⟨va', vc', hv'⟩, hvb⟩ := OwnSl.tail (t := 52) (P := Tryz.prog) Tryz.underlying52 (fun wx => by kernel_rfl) .i64 ho1
          simp only [List.length_cons, List.length_nil, Nat.zero_add, Nat.reduceAdd] at hv'
          subst hv'
          have HTL := Lib.hid htl; have HVB := Lib.hid hvb; clear htl ho1 hvb
          have HAB := Lib.hid hab; have HRR := Lib.hid hR; clear hab hR
          have HW1 := Lib.hid (fun d (ob : Obj) => HTL.out ((w2.drewN d).alloc ob) (OwnSl.alloc (w := w2.drewN d) (by have := HO1.out; rw [HVV.out] at this; exact this) ob))
          generalize hnp : y2.newPic.length = nl at *
          go_wp2_with (at_builtin; refine wpList_append_sl _ rfl (.tmp 102) (.tmp 104) 52 rfl 0 58 i0 (.slice none 0 0) 24 Tryz.underlying52 hi hz0 hz1 hz2 rfl (.slice va' 2 vc') [va1, vb1] rfl (HW1.out _ _) ⟨_, 0, none⟩ (.slice pa nl pc) rfl (World.news_of_block (heap_alloc_new _ _)) (by intro u hu; simp at hu; subst hu; rfl) (show 2 + 1 ≤ maxLen by decide) (show (2 + 1) * 24 ≤ 140737488355328 by decide) (Nat.zero_le _) ?_)
          intro v2 w5 ho5 hg5 hb5
          obtain ⟨za, zc, hv2, -, -⟩ := ho5.shape
          simp only [List.length_cons, List.length_nil, Nat.zero_add, Nat.reduceAdd] at hv2
          subst hv2
          have hgp : ((w2.drewN d).alloc (Obj.cells #[Value.slice pa nl pc] 58)).grownBy w5 K1.pv.ownBlock := by rw [HVV.out, ← HVB.out]; exact hg5
          have hw1 : Below wx.heap.size wx ((w2.drewN d).alloc (Obj.cells #[Value.slice pa nl pc] 58)) := (HBW.out.drewN d).alloc HBW.out.size _
          have hpics := PicsAt.appended (vs1 := [va1, vb1]) (u := .slice pa nl pc) (cb := cb) (m := 7) (x := .slice za 3 zc) (pics := y2.pics.drop 1) (z := y2.newPic) (fun b hb => H3'.out.ch.pl b hb) HOB.out (by rw [List.length_drop, HT3.out]; rfl) (fun i v z hvi hzi => HO3.out (i + 1) v z (by simpa using hvi) (by rw [List.getElem?_drop] at hzi; rw [Nat.add_comm]; exact hzi)) hw1 hgp ho5
            (by rw [HVV.out, ← HVB.out]; simpa using hb5) (fun g hg => (ho5.blk hg).2)
            ⟨pa, pc, by rw [hnp], (by
              have h0 := HRR.out
              rw [← hnp] at h0
              exact (h0.below ((Below.refl _ _).drewN d)).below ((Below.refl _ _).alloc (Nat.le_refl _) _)), fun a ha => ⟨(HAB.out a ha).1.imp id (fun h => ⟨by rw [hB]; exact h.1, by have := h.2; simp; omega⟩), (HAB.out a ha).2⟩⟩
            H3'.out.ch.d0.2.2.2 H3'.out.ch.row.lt
          have hkp : Keep (fun b => K1.pv.ownBlock = some b) wx w5 := (Keep.of_below hw1).grown hgp (fun k hk => .inl hk)
          have hfin := H3'.out.pics hkp (fun b hb => HOB.out b hb) hpics
          have hr5 : RowAt cb 54 (chainVs K1 sd y2) w5 := H3'.out.ch.row.keep hkp (fun e => H3'.out.ch.d0.2.2.2 (HOB.out _ e))
          have m7 : w5.cell? ⟨cb, 7, none⟩ = some K1.pv := hr5.cell 7
          have f7 : w5.frozen? ⟨cb, 7, none⟩ = false := hr5.frozen 7
          rw [← HE2.out] at hfin
          have HFIN := Lib.hid hfin
          clear hgp hw1 hpics hkp hfin hr5 ho5 hg5 hb5
          go_wp2_with fail
          go_end0
          exact ⟨rfl, _, HFIN.out⟩
end
end Go.Proofs.YtajnfkmkombajabGreatDoor
namespace Go.Proofs.YtajnfkmkombajabGreatDoor
open Go.RowKit

theorem rate_most {r b : Int} : rateN r b ≤ 45000 ∧ 0 ≤ rateN r b := by
  unfold rateN
  split
  · next h =>
    obtain ⟨h1, h2⟩ := h
    have := rateL_bounds (x := r) (by omega) (by omega)
    omega
  · omega
theorem CS.issues_small {c : CS} (h : c.Inv) : c.issues ≤ c.p.supply / 80 := by
  unfold CS.issues rewardN
  obtain ⟨r1, r0⟩ := rate_most (r := c.ratio) (b := c.bonus)
  have hle := h.p.le
  have s0 := h.p.sum_bd
  have hs : 0 ≤ c.p.supply := by omega
  generalize rateN c.ratio c.bonus = r at *
  generalize c.p.supply = s at *
  split
  · have h1 : s * r ≤ s * 45000 := Int.mul_le_mul_of_nonneg_left r1 hs
    omega
  · omega
/-- no supply is greater when i blocks are baked -/
def cap : Nat → Int
  | 0 => 60000
  | i + 1 => cap i + cap i / 80
theorem cap_pos : ∀ i, 60000 ≤ cap i
  | 0 => by decide
  | i + 1 => by have := cap_pos i; unfold cap; omega
theorem cap_le {i j : Nat} (h : i ≤ j) : cap i ≤ cap j := by
  induction h with
  | refl => exact Int.le_refl _
  | @step m _ ih => have := cap_pos m; show cap i ≤ cap m + cap m / 80; omega
theorem cap_all : cap 400 ≤ 562949953421312 := by decide +kernel
theorem CS.issues_fit {c : CS} (h : c.Inv) {i : Nat} (hi : i ≤ 400) (hs : c.p.supply ≤ cap i) : c.p.supply + c.issues ≤ cap (i + 1) ∧ c.p.supply + c.issues ≤ 1125899906842624 := by
  have h1 := CS.issues_small h
  have h2 := cap_le hi
  have h3 := cap_all
  have hle := h.p.le
  have s0 := h.p.sum_bd
  refine ⟨?_, by omega⟩
  show _ ≤ cap i + cap i / 80
  omega

theorem CS.reward_law {c : CS} (h : c.Inv) {k : Int} (h0 : 0 ≤ k) (h3 : k < 3) (hs : c.p.supply + c.issues ≤ 1125899906842624) :
    ((c.reward k).1 = c.issues ∨ ((c.reward k).1 = 0 ∧ c.s.staked k = 0)) ∧ (c.reward k).2.s.staked k = c.s.staked k + (c.reward k).1 := by
  have hi := CS.issues_bd h
  obtain ⟨q, hq⟩ := SS.pool_reg (h.reg k h0 h3)
  have hqo : q.Ok := by
    obtain ⟨j, rfl⟩ := Int.eq_ofNat_of_zero_le h0
    rw [SS.pool_nat] at hq
    exact h.s.pools q (by
      rw [List.getD_eq_getElem?_getD] at hq
      cases hx : c.s.P[j]? with
      | none => rw [hx] at hq; cases hq
      | some y => rw [hx] at hq; simp at hq; subst hq; exact List.mem_of_getElem? hx)
  have hst : c.s.staked k = q.total := by unfold SS.staked; rw [hq]; rfl
  have ha : c.s.addOp k c.issues = ((q.addOp c.issues).1, c.s.setP k (q.addOp c.issues).2) := by unfold SS.addOp; rw [hq]
  have hle := h.p.le
  have s0 := h.p.sum_bd
  have hb := h.bal
  have hsb := SS.staked_bd h.s
  have hsk : c.s.staked k ≤ c.s.total := by
    obtain ⟨j, rfl⟩ := Int.eq_ofNat_of_zero_le h0
    match j, (by omega : j < 3) with
    | 0, _ => show c.s.staked 0 ≤ _; omega
    | 1, _ => show c.s.staked 1 ≤ _; omega
    | 2, _ => show c.s.staked 2 ≤ _; omega
  have hst' : ∀ r : QS, (c.s.setP k r).staked k = r.total := fun r => by
    unfold SS.staked; rw [SS.pool_setP h.s h0 h3, if_pos rfl]; rfl
  have hg : c.p.growOp c.issues = (0, c.p.grow c.issues) := by
    unfold PS.growOp; rw [if_pos]; simp only [Bool.and_eq_true, amtB_iff]; omega
  unfold CS.reward
  rw [if_neg (by omega), ha]
  by_cases hall : q.all = 0
  · have e : q.addOp c.issues = (4, q) := by
      unfold QS.addOp; rw [if_neg (by simp [amtB_iff]; omega), if_pos hall]
    rw [e, if_pos (by simp)]
    refine ⟨.inr ⟨rfl, by rw [hst]; exact hqo.nil hall⟩, ?_⟩
    simp only; rw [hst', hst]; omega
  · have e : q.addOp c.issues = (0, ⟨q.total + c.issues, q.all, q.sh⟩) := by
      unfold QS.addOp; rw [if_neg (by simp [amtB_iff]; omega), if_neg hall, if_neg (by omega)]
    rw [e, if_neg (by simp), hg, if_neg (by simp)]
    refine ⟨.inl rfl, ?_⟩
    simp only; rw [hst', hst]
theorem CS.step_staked {c : CS} (k : Int) (h : (c.level + 1) % 4 ≠ 0) : c.stepOp.s.staked k = c.s.staked k := by
  unfold CS.stepOp; rw [if_neg h]
/-- without the end of a cycle nothing else changes -/
theorem CS.reward_supply {c : CS} (h : c.Inv) {k : Int} {i : Nat} (hi : i ≤ 400) (hs : c.p.supply ≤ cap i) : (c.reward k).2.stepOp.p.supply ≤ cap (i + 1) := by
  obtain ⟨a1, a2⟩ := CS.issues_fit h hi hs
  obtain ⟨b1, b2, b3, _⟩ := CS.reward_inv h k
  have := (CS.step_inv b1).2.1
  have h4 : (c.reward k).1 ≤ c.issues := by
    have := CS.issues_bd h
    unfold CS.reward
    split
    · exact this.1
    · split
      · exact this.1
      · split
        · exact this.1
        · exact Int.le_refl _
  omega
theorem new_issues : CS.new.issues = 540 := by decide +kernel
theorem new_staked {k : Int} (h0 : 0 ≤ k) (h3 : k < 3) : CS.new.s.staked k = 1000 := by
  obtain ⟨j, rfl⟩ := Int.eq_ofNat_of_zero_le h0
  match j, (by omega : j < 3) with
  | 0, _ => rfl
  | 1, _ => rfl
  | 2, _ => rfl
/-- the first block's reward -/
theorem new_reward {k : Int} (h0 : 0 ≤ k) (h3 : k < 3) : (CS.new.reward k).1 = 540 ∧ (CS.new.reward k).2.stepOp.level = 1 ∧ (CS.new.reward k).2.stepOp.s.staked k = 1540 ∧ (CS.new.reward k).2.stepOp.p.supply = 60540 := by
  have hs : CS.new.p.supply = 60000 := rfl
  obtain ⟨h1, h2⟩ := CS.reward_law CS.new_inv h0 h3 (by rw [new_issues, hs]; decide)
  rw [new_staked h0 h3, new_issues] at h1
  obtain ⟨i1, i2, i3, i4, i5⟩ := CS.reward_inv CS.new_inv k
  have hr : (CS.new.reward k).1 = 540 := by omega
  have hl : CS.new.level = 0 := rfl
  have hc : CS.new.cycle = 0 := rfl
  have e : (CS.new.reward k).2.stepOp = { (CS.new.reward k).2 with level := (CS.new.reward k).2.level + 1 } := by
    unfold CS.stepOp; rw [if_neg (by rw [i5, hl]; decide)]
  rw [e]
  refine ⟨hr, by simp only; rw [i5, hl]; rfl, ?_, ?_⟩
  · show (CS.new.reward k).2.s.staked k = 1540
    rw [h2, new_staked h0 h3, hr]; rfl
  · show (CS.new.reward k).2.p.supply = 60540
    rw [i3, hr, hs]; rfl
end Go.Proofs.YtajnfkmkombajabGreatDoor
namespace Go.Proofs.YtajnfkmkombajabGreatDoor
open Go.RowKit Go.Maps

/-- a block of a baker in a round: what is rewarded, an error's number -/
noncomputable def CS.bakeOp (x : CS) (sd : Nat) (b r : Int) : Int × Nat × CS :=
  if x.turnC r ≠ 0 then (0, x.turnC r, x) else if x.turnV sd r ≠ b then (0, 9, x) else ((x.reward b).1, 0, (x.reward b).2.stepOp)
theorem turnC_two {x : CS} {r : Int} : x.turnC r ≠ 0 → x.turnC r = 2 := fun h => by unfold CS.turnC at h ⊢; split at h <;> simp_all
theorem turnC_zero {x : CS} {r : Int} : x.turnC r = 0 → roundOk x.cycle x.level r := fun h => by
  unfold CS.turnC at h
  split at h
  · assumption
  · cases h
theorem CS.reward_len (c : CS) (b : Int) : (c.reward b).2.s.W.length = c.s.W.length := by
  unfold CS.reward
  split
  · rfl
  · split
    · simp only; rw [SS.add_len]
    · split <;> (simp only; rw [SS.add_len])

section
variable (A : Nat → Addr) (S : List Nat) (W : World) (F : Nat → Prop) (cb : Nat) (K : ChL) (n sd : Nat) (x : CS) (w : World)
set_option maxRecDepth 8000 in
set_option maxHeartbeats 1000000 in
theorem chain_Bake (b r : Int) (h : ChGo W F cb K n sd x w) (hx : x.Inv) (hs : sd < 18446744073709551616) (hE : Errs A S W) (hFE : ∀ c ∈ S, ¬ F (gE c)) (h2 : 2 ∈ S) (h3 : 3 ∈ S) (h4 : 4 ∈ S) (h6 : 6 ∈ S) (h9 : 9 ∈ S) (hW : x.s.W.length ≤ 8000) (hn : n + 1 ≤ 1000000) (hk : x.k.L.length ≤ 1000000) :
    Calls Tryz.prog 91 #[.pointer (some ⟨cb, 0, none⟩), .int .i64 b, .int .i64 r] w fun e w' => e = .returned (.tuple #[.int .i64 (x.bakeOp sd b r).1, ev A (x.bakeOp sd b r).2.1]) ∧ ∃ K', ChGo W F cb K' (n + 1) sd (x.bakeOp sd b r).2.2 w' := by
  have H0 := Lib.hid h
  have HEE := Lib.hid (And.intro hE hFE)
  have HX := Lib.hid hx
  have HT := Lib.hid (chain_Turn A S W F cb K n sd x r w h hx hs hE hFE h2 h3 h4)
  clear h hx hE hFE
  by_cases hc : x.turnC r = 0
  · obtain ⟨⟨r0, r1⟩, ⟨r2, r3⟩, r4, r5⟩ := turnC_zero hc
    rw [show ev A (x.turnC r) = .nilIface by rw [hc]; rfl] at HT
    by_cases hb : x.turnV sd r = b
    · have E := Lib.hid (show x.bakeOp sd b r = ((x.reward b).1, 0, (x.reward b).2.stepOp) by unfold CS.bakeOp; rw [if_neg (by simp [hc]), if_neg (by simp [hb])])
      obtain ⟨i1, -, -, i4, i5⟩ := CS.reward_inv HX.out b
      obtain ⟨k1, k2, k3⟩ := CS.reward_keeps x b
      have HI := Lib.hid i1
      have hlen := CS.reward_len x b
      have HRW := Lib.hid (fun wx (hg : ChGo W F cb K n sd x wx) => chain_reward A S W F cb K n sd x wx b hg HX.out HEE.out.1 HEE.out.2 h2 h3 h4)
      rw [hb] at HT
      have hl1 : (x.reward b).2.level = x.level := i5
      have hc1 : (x.reward b).2.cycle = x.cycle := i4
      have hk1 : (x.reward b).2.k.L.length ≤ 1000000 := by rw [k2]; exact hk
      have hw1 : (x.reward b).2.s.W.length ≤ 8000 := by rw [hlen]; exact hW
      clear i1 i4 i5 k1 k2 k3 hlen hb hc
      generalize (x.reward b).2 = y at *
      generalize (x.reward b).1 = rw_ at *
      generalize hL : x.level = L at *
      go_enter Tryz.func91, Tryz.ntmps91
      go_wp2_with fail
      refine HT.out.mono ?_
      rintro e w1 ⟨rfl, hb1⟩
      have H1 := Lib.hid (H0.out.below hb1); clear hb1
      go_wp2_with fail
      refine (HRW.out _ H1.out).mono ?_
      rintro e w2 ⟨rfl, K2, hg2⟩
      have H2 := Lib.hid hg2; clear hg2
      have c5 := H2.out.c5; have f5 := H2.out.ch.row.frozen 5
      rw [hl1] at c5
      have H3 := Lib.hid (H2.out.put (i := 5) (v := .int .i64 (L + 1)) (y := { y with level := L + 1 }) rfl rfl rfl rfl rfl)
      have em : (L + 1).tmod 4 = (L + 1) % 4 := Int.tmod_eq_emod_of_nonneg (by omega)
      by_cases hm : (L + 1) % 4 = 0
      · have hm' : (L + 1).tmod 4 = 0 := by rw [em]; exact hm
        have ES := Lib.hid (show y.stepOp = ({ y with level := L + 1 } : CS).endOp by unfold CS.stepOp; rw [hl1, if_pos hm])
        have hinv : ({ y with level := L + 1 } : CS).Inv := ⟨HI.out.p, HI.out.s, HI.out.reg, HI.out.bal, HI.out.known, HI.out.done, HI.out.b0, HI.out.b1, HI.out.three, HI.out.pic, HI.out.cy, by show 0 ≤ L + 1; omega⟩
        have HEN := Lib.hid (chain_end A S W F cb K2 (n + 1) sd { y with level := L + 1 } _ H3.out hinv HEE.out.1 HEE.out.2 h2 h4 h6 hw1 hn hk1 (by show y.cycle ≤ _; rw [hc1]; omega))
        have hm2 : ((L + 1) % 4 == 0) = true := by simp [hm]
        clear em hm hinv
        go_wp2_with fail
        refine HEN.out.mono ?_
        rintro e w3 ⟨rfl, K3, hg3⟩
        have H4 := Lib.hid hg3; clear hg3
        go_wp2_with fail
        go_ret2
        exact ⟨by rw [E.out]; rfl, by rw [E.out, ES.out]; exact ⟨K3, H4.out⟩⟩
      · have hm' : ((L + 1).tmod 4 == 0) = false := by rw [em]; simp [hm]
        have ES := Lib.hid (show y.stepOp = { y with level := L + 1 } by unfold CS.stepOp; rw [hl1, if_neg hm])
        have hm2 : ((L + 1) % 4 == 0) = false := by simp [hm]
        clear em hm
        go_wp2_with fail
        go_ret2
        exact ⟨by rw [E.out]; rfl, by rw [E.out, ES.out]; exact ⟨K2, H3.out⟩⟩
    · have E := Lib.hid (show x.bakeOp sd b r = (0, 9, x) by unfold CS.bakeOp; rw [if_neg (by simp [hc]), if_pos hb])
      have hne : (x.turnV sd r == b) = false := by simp [hb]
      have HG9 := Lib.hid (fun wx (hb1 : Below w.heap.size w wx) => (show wx.cell? ⟨8, 0, none⟩ = some (.iface 235 (.pointer (some (A 9)))) from ((H0.out.below hb1).errs HEE.out.1 HEE.out.2).cell 9 h9))
      clear hc hb
      generalize x.turnV sd r = tv at *
      go_enter Tryz.func91, Tryz.ntmps91
      go_wp2_with fail
      refine HT.out.mono ?_
      rintro e w1 ⟨rfl, hb1⟩
      have g9 := HG9.out _ hb1
      have H1 := Lib.hid (H0.out.below hb1); clear hb1
      go_wp2_with fail
      go_quiet (fail)
      go_wp2_with fail
      go_ret2
      exact ⟨by rw [E.out]; rfl, by rw [E.out]; exact ⟨K, (H1.out.drewN _).mono (Nat.le_succ n)⟩⟩
  · have E := Lib.hid (show x.bakeOp sd b r = (0, x.turnC r, x) by unfold CS.bakeOp; rw [if_pos hc])
    rw [ev_some A hc] at HT
    have EV := Lib.hid (ev_some A hc)
    clear hc
    go_enter Tryz.func91, Tryz.ntmps91
    go_wp2_with fail
    refine HT.out.mono ?_
    rintro e w1 ⟨rfl, hb1⟩
    have H1 := Lib.hid (H0.out.below hb1); clear hb1
    go_wp2_with fail
    go_ret2
    exact ⟨by rw [E.out, EV.out]; rfl, by rw [E.out]; exact ⟨K, H1.out.mono (Nat.le_succ n)⟩⟩
end
end Go.Proofs.YtajnfkmkombajabGreatDoor
