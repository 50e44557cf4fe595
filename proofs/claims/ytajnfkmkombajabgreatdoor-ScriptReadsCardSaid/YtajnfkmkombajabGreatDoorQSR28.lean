/-
  Scripts: a line is played.
  Scripts: an error's own text; a whole script.
  Plain: the script of the closed fact hello. No program in sight.
-/
import Derived.Test.YtajnfkmkombajabGreatDoorQSR27
import Derived.Deep.DeepCutAuto
import Derived.Deep.CutBlock
import Derived.Laws.EntriesVeiled
import Derived.Test.YtajnfkmkombajabGreatDoorQSR23
import Derived.Deep.LoopGhost
import Derived.Deep.AppendLies
import Derived.Test.YtajnfkmkombajabGreatDoorQSR24
import Derived.Test.YtajnfkmkombajabGreatDoorQSR01
set_option linter.unusedVariables false
set_option linter.unusedSimpArgs false
set_option linter.unusedVariables false
namespace Go.Proofs.YtajnfkmkombajabGreatDoor
open Go Go.RowKit Go.Maps Go.ChangeMaps

theorem Left.earlier {w0 w1 w2 : World} {F : Nat → Prop} {cb sd m : Nat} {y : CS} (g : Left w1 F cb sd m y w2) (b : Below w0.heap.size w0 w1) (hF : ∀ b, F b → b < w0.heap.size) : Left w0 F cb sd m y w2 := by
  obtain ⟨K', q, hq, g⟩ := g; exact ⟨K', q, hq, g.earlier b hF⟩
theorem split_le (s : ByteArray) : (splitL s).length ≤ s.size + 1 := by
  rw [split_len]; have := Lib.countB_le spB (by decide) _ s (Nat.le_refl _); omega
theorem splitSp_le : ∀ (l : List UInt8), ∀ p ∈ splitSp l, p.length ≤ l.length
  | [], p, h => by simp [splitSp] at h; simp [h]
  | b :: l, p, h => by
    have ih := splitSp_le l
    unfold splitSp at h
    split at h
    · rcases List.mem_cons.1 h with e | h
      · subst e; simp
      · have := ih p h; simp only [List.length_cons]; omega
    · cases hs : splitSp l with
      | nil => exact absurd hs (splitSp_ne l)
      | cons a t =>
        rw [hs] at h ih
        rcases List.mem_cons.1 h with e | h
        · subst e; have := ih a (by simp); simp only [List.length_cons]; omega
        · have := ih p (List.mem_cons_of_mem _ h); simp only [List.length_cons]; omega
theorem split_size {s p : ByteArray} (h : p ∈ splitL s) : p.size ≤ s.size := by
  have hm : p.data.toList ∈ splitSp s.data.toList := by
    rw [← splitB_sp]; exact List.mem_map_of_mem (f := fun x : ByteArray => x.data.toList) h
  have := splitSp_le _ _ hm
  simpa using this
theorem num_le {s : ByteArray} {v : Int} (h : numOf s = some v) : 0 ≤ v ∧ v ≤ 9999999 := by
  obtain ⟨h0, h7, hi, -⟩ := numOf_bd h
  refine ⟨h0, ?_⟩
  obtain ⟨u, rfl⟩ := Int.eq_ofNat_of_zero_le h0
  have hs : (Lib.decDigits u).length = s.size := by
    have hn : ¬ ((u : Int) < 0) := by omega
    rw [← hi]; simp [itoaB, Lib.itoa, hn, ByteArray.size]
  rw [Lib.decDigits_length] at hs
  have hlt := Lib.lt_pow_nDigits u
  have : 10 ^ Lib.nDigits u ≤ 10 ^ 7 := Nat.pow_le_pow_right (by decide) (by omega)
  have e7 : (10 : Nat) ^ 7 = 10000000 := by decide
  omega
theorem readZ_bd : ∀ (l : List (UInt8 × ByteArray)) (r : List Int), readZ l = some r → ∀ v ∈ r, 0 ≤ v ∧ v ≤ 9999999
  | [], r, h, v, hv => by cases h; cases hv
  | y :: l, r, h, v, hv => by
    unfold readZ at h
    cases hy : formNum y.1 y.2 with
    | none => rw [hy] at h; cases h
    | some u =>
      cases hl : readZ l with
      | none => rw [hy, hl] at h; cases h
      | some t =>
        rw [hy, hl] at h
        cases h
        rcases List.mem_cons.1 hv with e | hv
        · subst e
          unfold formNum at hy
          cases hn : numOf y.2 with
          | none => rw [hn] at hy; cases hy
          | some z =>
            rw [hn] at hy
            simp only at hy
            split at hy
            · cases hy
            · cases hy; exact num_le hn
        · exact readZ_bd l t hl v hv
theorem readB_facts {fl : List UInt8} {ws : List ByteArray} {ns : List Int} (h : readB fl ws = some ns) : ns.length = fl.length ∧ ∀ v ∈ ns, 0 ≤ v ∧ v ≤ 9999999 := by
  unfold readB at h
  split at h
  · next hl =>
    refine ⟨?_, readZ_bd _ _ h⟩
    rw [readZ_len _ _ h, List.length_zip, hl, Nat.min_self]
  · cases h
theorem cmdForm_le (i : Nat) : (cmdForm i).length ≤ 8 := by
  by_cases h : i < 15
  · exact (by decide : ∀ i, i < 15 → (cmdForm i).length ≤ 8) i h
  · unfold cmdForm
    rw [List.getD_eq_getElem?_getD, List.getElem?_eq_none (by show 15 ≤ i; omega)]; simp
/-- what a line's word is found as -/
structure FoundAt (w0 : World) (g7 : Nat) (u fv : Value) (w : World) : Prop where
  below : Below w0.heap.size w0 w
  row : RowAt g7 63 [u, fv] w
  new : w0.heap.size ≤ g7

theorem CmdFv.func {w : World} {j : Nat} {fv : Value} (h : CmdFv w j fv) : ∃ f caps, fv = .func (.func f) #[] caps := by
  unfold CmdFv at h
  split at h
  · obtain ⟨b, h1, h2⟩ := h; exact ⟨_, _, h1⟩
  · split at h
    · obtain ⟨b, h1, h2⟩ := h; exact ⟨_, _, h1⟩
    · split at h
      · obtain ⟨b, c, h1, h2, h3⟩ := h; exact ⟨_, _, h1⟩
      · exact ⟨_, _, h⟩
theorem scr_balloc {a w : World} (h : Below a.heap.size a w) (ob : Obj) : Below a.heap.size a (w.alloc ob) := h.alloc h.size ob
theorem CmdFv.below {w w' : World} {j : Nat} {fv : Value} (h : CmdFv w j fv) (k : Below w.heap.size w w') : CmdFv w' j fv := h.mono fun b v hv => by rw [k.cell (World.block_lt_of_cell? w _ hv)]; exact hv
theorem CmdFv.set {w : World} {j g i : Nat} {fv u : Value} (h : CmdFv w j fv) (hg : ∀ v, w.cell? ⟨g, 0, none⟩ = some v → ∀ f a b, v ≠ .func f a b) : CmdFv (w.setCell ⟨g, i, none⟩ u) j fv := by
  have hk : ∀ (b : Nat) f p q, w.cell? ⟨b, 0, none⟩ = some (.func f p q) → (w.setCell ⟨g, i, none⟩ u).cell? ⟨b, 0, none⟩ = some (.func f p q) := fun b f p q hv => by
    have hb : b ≠ g := fun e => by subst e; exact hg _ hv _ _ _ rfl
    rw [((Keep.refl (· = g) w).put (o := i) u).cell (p := ⟨b, 0, none⟩) (World.block_lt_of_cell? w _ hv) hb]; exact hv
  unfold CmdFv at h ⊢
  split at h
  · next hj => rw [if_pos hj]; obtain ⟨b, h1, h2⟩ := h; exact ⟨b, h1, hk _ _ _ _ h2⟩
  · next hj =>
    rw [if_neg hj]
    split at h
    · next hj => rw [if_pos hj]; obtain ⟨b, h1, h2⟩ := h; exact ⟨b, h1, hk _ _ _ _ h2⟩
    · next hj =>
      rw [if_neg hj]
      split at h
      · next hj => rw [if_pos hj]; obtain ⟨b, c, h1, h2, h3⟩ := h; exact ⟨b, c, h1, hk _ _ _ _ h2, hk _ _ _ _ h3⟩
      · next hj => rw [if_neg hj]; exact h

set_option maxRecDepth 8000 in
set_option maxHeartbeats 2000000 in
theorem scr_play (A : Nat → Addr) (W : World) (cb : Nat) (K : ChL) (n sd : Nat) (x : CS) (pb : Nat) (w : World) (line : ByteArray) (h : CmdIn A W cb K n sd x pb w) (hline : line.size ≤ 100000) :
    Calls Tryz.prog 11 #[.pointer (some ⟨pb, 0, none⟩), .string line] w (Done A w (K.foot cb) cb sd (n + 6 + x.s.W.length) (x.lineOp sd line)) := by
  have H := Lib.hid h
  obtain ⟨m, hm⟩ := h.lib.maxl
  have HSP := Lib.hid (Tryz.strings_Split line ⟨#[32]⟩ m w (by omega) hm (by decide))
  have HLN := Lib.hid (split_len line)
  have HE := Lib.hid (show Lib.splitB ⟨#[32]⟩ 0 (Lib.countB line ⟨#[32]⟩) line = splitL line from rfl)
  have HCE := Lib.hid (show Lib.countB line spB = Lib.countB line ⟨#[32]⟩ from rfl)
  rw [HCE.out] at HLN
  rw [HE.out] at HSP
  generalize hL : splitL line = L at *
  generalize Lib.countB line ⟨#[32]⟩ = cn at *
  have HLL := Lib.hid hL
  clear h hm hL HE HCE
  go_enter Tryz.func11, Tryz.ntmps11
  go_wp2_with fail
  refine HSP.out.mono ?_
  rintro e w1 ⟨rfl, rfl⟩
  have hm9 : L.length ≤ maxLen := by have := HLN.out; have := split_le line; rw [HLL.out] at this; unfold maxLen; omega
  have R1 := RdR.str_new w 9 L hm9
  obtain ⟨w1, hw1⟩ : ∃ w1, w.alloc (.cells (L.map Value.string).toArray 9) = w1 := ⟨_, rfl⟩
  rw [hw1, HLN.out] at R1
  have B1 : Below w.heap.size w w1 := by rw [← hw1]; exact (Below.refl _ _).alloc (Nat.le_refl _) _
  have HB1 := Lib.hid B1; have HR1 := Lib.hid R1
  obtain ⟨s0, hs0⟩ : ∃ s0, L[0]? = some s0 := ⟨_, List.getElem?_eq_getElem (by have := HLN.out; omega)⟩
  obtain ⟨b0, off0, e0, -, hc0⟩ := R1.cells 0 s0 hs0
  cases e0
  have c0 := hc0 0 (by decide)
  simp only [strE, List.getElem?_cons_zero, Nat.add_zero, Nat.mul_one] at c0
  have HC0 := Lib.hid (fun wx (q : Below w1.heap.size w1 wx) => show wx.cell? ⟨w.heap.size, 0, none⟩ = some (.string s0) from by rw [q.cell (World.block_lt_of_cell? w1 _ c0)]; exact c0)
  have HD1 := Lib.hid ((Below.refl w1.heap.size w1).drewN 1)
  have HH := Lib.hid (show L.headD ByteArray.empty = s0 by rw [← List.head?_eq_getElem?] at hs0; cases L with
    | nil => cases hs0
    | cons a l => simpa using hs0)
  have hw1l : w.heap.size < w1.heap.size := World.block_lt_of_cell? w1 _ c0
  clear hm9 R1 B1 hs0 hc0 c0
  cases hk : cmdOf s0.data.toList with
  | none =>
    have HMISS := Lib.hid (fun W' wx g (hc : CmdsAt W' g 15 wx) => hc.miss hk)
    have HLO := Lib.hid (show x.lineOp sd line = (ByteArray.empty, 1, x) by unfold CS.lineOp; rw [HLL.out, HH.out, hk])
    clear hk
    go_wp2_with fail
    go_upto_region 2 with fail
    go_cut [7, 8] (fun s7 s8 wx => s8 = .bool false ∧ Below w1.heap.size w1 wx)
    case first =>
      go_region_held3 (fun wx => wx.cell? ⟨w.heap.size, 0, none⟩ = some (.string s0)) (exact HC0.out _ (by repeat (first | exact HB2.out | exact HD1.out | exact Below.refl _ _ | apply Below.drewN | apply scr_balloc | (refine Below.setCell ?_ (by first | exact Nat.le_refl _ | exact HB2.out.size) _))))
        (first
          | (go_at_call 22; refine (scr_commands (w1.drewN 1)).mono ?_; rintro y w2 ⟨g, rfl, hc⟩; have HB2 := Lib.hid (btrans HD1.out hc.below); have lk := HMISS.out _ _ _ hc; have hgl := lt_of_block hc.map.choose_spec.choose_spec.1; have lk1 := lk w2 rfl; have lk2 := fun ob => lk (w2.alloc ob) ((MapKept.heap_alloc w2 ob).2 g hgl); clear lk hc)
          | (go_at_call 22; refine (scr_commands ((w1.drewN 1).alloc (.cells #[.string ⟨#[]⟩, .nilFunc] 63))).mono ?_; rintro y w2 ⟨g, rfl, hc⟩; have HB2 := Lib.hid (btrans (scr_balloc HD1.out _) hc.below); have lk := HMISS.out _ _ _ hc; have rr : RowAt w1.heap.size 63 [.string ⟨#[]⟩, .nilFunc] w2 := (RowAt.new (w1.drewN 1) 63 [.string ⟨#[]⟩, .nilFunc]).below hc.below (by simp); have q0 := rr.cell 0; have q1 := rr.cell 1; have r0 := rr.frozen 0; have r1 := rr.frozen 1; simp only [List.getElem?_cons_zero, List.getElem?_cons_succ] at q0 q1; have lk1 := lk w2 rfl; clear lk hc rr))
      all_goals go_wp2_with fail
      all_goals go_meet
      all_goals (case rel => first
        | exact ⟨rfl, scr_balloc HB2.out _⟩
        | exact ⟨rfl, (HB2.out.setCell (p := ⟨w1.heap.size, 0, none⟩) (Nat.le_refl _) _).setCell (p := ⟨w1.heap.size, 1, none⟩) (Nat.le_refl _) _⟩)
    case rest =>
      obtain ⟨rfl, hbc⟩ := hcut
      rename World => wc
      have HBC := Lib.hid (btrans HB1.out hbc); clear hbc
      have hgt := (H.out.next HBC.out).lib.sents.errs.cell 1 (by decide)
      have g1 : wc.cell? ⟨1, 0, none⟩ = some (ev A 1) := hgt
      clear hgt
      go_wp2_with fail
      go_quiet (fail)
      go_wp2_with fail
      go_ret2
      exact ⟨by rw [HLO.out]; rfl, by rw [HLO.out]; exact H.out.same (HBC.out.drewN _) (by omega)⟩
  | some i =>
    have HHIT := Lib.hid (fun W' wx g (hc : CmdsAt W' g 15 wx) => hc.hit hk)
    have HKK := Lib.hid hk; clear hk
    go_wp2_with fail
    go_upto_region 2 with fail
    go_cut [7, 8] (fun s7 s8 wx => ∃ (g7 : Nat) (f : Nat) (caps : Array Value), s7 = .pointer (some ⟨g7, 0, none⟩) ∧ s8 = .bool true ∧ FoundAt w1 g7 (.string (bstr (cmdForm i))) (.func (.func f) #[] caps) wx ∧ CmdFv wx i (.func (.func f) #[] caps) ∧ i < 15)
    case first =>
      go_region_held3 (fun wx => wx.cell? ⟨w.heap.size, 0, none⟩ = some (.string s0)) (exact HC0.out _ (by repeat (first | exact HB2.out | exact HD1.out | exact Below.refl _ _ | apply Below.drewN | apply scr_balloc | (refine Below.setCell ?_ (by first | exact Nat.le_refl _ | exact HB2.out.size) _))))
        (first
          | (go_at_call 22; refine (scr_commands (w1.drewN 1)).mono ?_; rintro y w2 ⟨g, rfl, hc⟩; have HB2 := Lib.hid (btrans HD1.out hc.below); obtain ⟨hi15, fv, hfv, lk⟩ := HHIT.out _ _ _ hc; obtain ⟨f, caps, rfl⟩ := hfv.func; have HFV := Lib.hid hfv; have hgl := lt_of_block hc.map.choose_spec.choose_spec.1; have lk1 := lk w2 rfl; have lk2 := fun ob => lk (w2.alloc ob) ((MapKept.heap_alloc w2 ob).2 g hgl); clear lk hfv hc)
          | (go_at_call 22; refine (scr_commands ((w1.drewN 1).alloc (.cells #[.string ⟨#[]⟩, .nilFunc] 63))).mono ?_; rintro y w2 ⟨g, rfl, hc⟩; have HB2 := Lib.hid (btrans (scr_balloc HD1.out _) hc.below); obtain ⟨hi15, fv, hfv, lk⟩ := HHIT.out _ _ _ hc; obtain ⟨f, caps, rfl⟩ := hfv.func; have HFV := Lib.hid hfv; have rr : RowAt w1.heap.size 63 [.string ⟨#[]⟩, .nilFunc] w2 := (RowAt.new (w1.drewN 1) 63 [.string ⟨#[]⟩, .nilFunc]).below hc.below (by simp); have q0 := rr.cell 0; have q1 := rr.cell 1; have r0 := rr.frozen 0; have r1 := rr.frozen 1; simp only [List.getElem?_cons_zero, List.getElem?_cons_succ] at q0 q1; have HRR := Lib.hid rr; have lk1 := lk w2 rfl; clear lk hfv hc rr))
      all_goals go_wp2_with fail
      all_goals go_meet
      all_goals (case rel => first
        | exact ⟨w2.heap.size, f, caps, rfl, rfl, ⟨scr_balloc HB2.out _, RowAt.new w2 _ _, HB2.out.size⟩, HFV.out.below ((Below.refl _ _).alloc (Nat.le_refl _) _), hi15⟩
        | exact ⟨w1.heap.size, f, caps, rfl, rfl, ⟨(HB2.out.setCell (p := ⟨w1.heap.size, 0, none⟩) (Nat.le_refl _) _).setCell (p := ⟨w1.heap.size, 1, none⟩) (Nat.le_refl _) _, (HRR.out.set 0 _).set 1 _, Nat.le_refl _⟩, (HFV.out.set (fun v hv _ _ _ e => by rw [q0] at hv; cases hv; cases e)).set (fun v hv _ _ _ e => by have := (HRR.out.set 0 (.string (bstr (cmdForm i)))).cell 0; simp only [List.set_cons_zero, List.getElem?_cons_zero] at this; rw [this] at hv; cases hv; cases e), hi15⟩)
    case rest =>
      obtain ⟨g7, f, caps, rfl, rfl, hF, hfv, hi15⟩ := hcut
      have HF := Lib.hid hF; have HFV := Lib.hid hfv
      have q0 := hF.row.cell 0; have q1 := hF.row.cell 1
      simp only [List.getElem?_cons_zero, List.getElem?_cons_succ] at q0 q1
      rename World => wc
      obtain ⟨a', hsl, RL, -⟩ := (HR1.out.below HF.out.below).str_lo 1 (by omega) .i64
      have hsl2 : ∀ wx : World, (Instr.slice 23 (.slice (some ⟨w.heap.size, 0, none⟩) (cn + 1) (cn + 1)) (some (.int .i64 1)) none none).run Tryz.prog wx = .ok (.slice a' cn cn) wx := hsl
      have HRL := Lib.hid (show RdR strE 1 wc a' cn cn (L.drop 1) from RL)
      have HWS := Lib.hid (fun s (hs : s ∈ L.drop 1) => show s.size ≤ 1000000 from by have := split_size (by rw [HLL.out]; exact List.mem_of_mem_drop hs : s ∈ splitL line); omega)
      have HBW := Lib.hid (btrans HB1.out HF.out.below)
      have hcl : cn ≤ 1000000 := by have := split_le line; rw [HLL.out, HLN.out] at this; omega
      have HRD := Lib.hid (fun wx (q : Below wc.heap.size wc wx) => scr_read A (cmdForm i) (bstr (cmdForm i)) rfl (cmdForm_le i) a' cn cn (L.drop 1) wx (HRL.out.below q) HWS.out hcl (H.out.lib.below (btrans HBW.out q)))
      obtain ⟨LT, hLT⟩ : ∃ LT, L.drop 1 = LT := ⟨_, rfl⟩
      rw [hLT] at HRL HWS HRD
      have HLT := Lib.hid hLT; clear hLT
      have HC7 := Lib.hid (fun wx (q : Below wc.heap.size wc wx) => show wx.cell? ⟨g7, 0, none⟩ = some (.string (bstr (cmdForm i))) from by rw [q.cell (World.block_lt_of_cell? wc _ q0)]; exact q0)
      have HBD := Lib.hid ((Below.refl wc.heap.size wc).drewN 1)
      clear hsl RL hF hfv hcl
      go_wp2_with fail
      go_region_held3 (fun wx => wx.cell? ⟨g7, 0, none⟩ = some (.string (bstr (cmdForm i)))) (first | exact HC7.out _ HB5.out | exact HC7.out _ HBD.out | exact HC7.out _ ((Below.refl wc.heap.size wc).drewN _))
        ((go_at_call 23; refine (HRD.out _ HBD.out).mono ?_; rintro y w5 ⟨v, rfl, hb5, ho5⟩; have HB5 := Lib.hid (btrans HBD.out hb5); have HO5 := Lib.hid ho5; clear hb5 ho5))
      all_goals
        have HX5 := Lib.hid (H.out.next (btrans HBW.out HB5.out))
        have hgt := HX5.out.lib.sents.errs.cell 1 (by decide)
        have g1 : w5.cell? ⟨1, 0, none⟩ = some (ev A 1) := hgt
        clear hgt
        cases hrd : readB (cmdForm i) LT with
        | none =>
          have HLO := Lib.hid (show x.lineOp sd line = (ByteArray.empty, 1, x) by unfold CS.lineOp; rw [HLL.out, HH.out, HKK.out]; simp only; rw [HLT.out, hrd])
          (try simp only [Option.isSome_none])
          go_wp2_with fail
          go_quiet (fail)
          go_wp2_with fail
          go_ret2
          exact ⟨by rw [HLO.out]; rfl, by rw [HLO.out]; exact H.out.same ((btrans HBW.out HB5.out).drewN _) (by omega)⟩
        | some ns =>
          have HLO := Lib.hid (show x.lineOp sd line = x.cmdOp sd i ns by unfold CS.lineOp; rw [HLL.out, HH.out, HKK.out]; simp only; rw [HLT.out, hrd])
          obtain ⟨hnl, hnb⟩ := readB_facts hrd
          have own := HO5.out ns hrd
          obtain ⟨oa, oc, rfl⟩ := own_shape own
          have hbf : ∀ a, oa = some a → ¬ K.foot cb a.block := fun a ha hf => by
            have h1 := (own.lt a.block (by rw [ha]; rfl)).1
            have h2 := H.out.cn.ch.footlt _ hf
            have h3 := (btrans HBW.out HBD.out).size
            omega
          have hdo := scr_does A W cb K n sd x pb w5 oa oc ns i hi15 _ HX5.out (HFV.out.below HB5.out) hnl (RdI.of_own own) hbf hnb
          have r5 := HF.out.row.below HB5.out HF.out.row.lt
          have q15 := r5.cell 1
          simp only [List.getElem?_cons_zero, List.getElem?_cons_succ] at q15
          have HEAR := Lib.hid (fun y w6 m (g : Left w5 (K.foot cb) cb sd m y w6) => g.earlier (btrans HBW.out HB5.out) H.out.cn.ch.footlt)
          (try simp only [Option.isSome_some])
          clear own hbf hnl hnb r5 hrd g1 q0 q1
          rcases hdo with ⟨f', h', e, ent, HC⟩ | ⟨f', e, ent, HC⟩
          · unfold closV at e
            cases e
            unfold Entered at ent
            have HCC := Lib.hid HC; clear HC
            go_wp2_with fail
            refine HCC.out.mono ?_
            rintro y w6 ⟨rfl, hl6⟩
            have HL6 := Lib.hid (HEAR.out _ _ _ hl6); clear hl6
            go_wp2_with fail
            go_ret2
            exact ⟨by rw [HLO.out]; rfl, by rw [HLO.out]; exact HL6.out⟩
          · unfold fnV at e
            cases e
            unfold Entered at ent
            have HCC := Lib.hid HC; clear HC
            go_wp2_with fail
            refine HCC.out.mono ?_
            rintro y w6 ⟨rfl, hl6⟩
            have HL6 := Lib.hid (HEAR.out _ _ _ hl6); clear hl6
            go_wp2_with fail
            go_ret2
            exact ⟨by rw [HLO.out]; rfl, by rw [HLO.out]; exact HL6.out⟩
end Go.Proofs.YtajnfkmkombajabGreatDoor
namespace Go.Proofs.YtajnfkmkombajabGreatDoor
open Go Go.RowKit Go.Maps

theorem Tryz.infoStr : (Tryz.prog.info? 9).map (fun i => (i.zero, i.size, i.bytes)) = some (some (.string ⟨#[]⟩), 1, 16) := by kernel_rfl

set_option maxRecDepth 8000 in
theorem scr_bare (A : Nat → Addr) (c : Nat) (h0 : c ≠ 0) (w : World) (h : Lw A w) : Calls Tryz.prog 12 #[ev A c] w fun e w' => e = .returned (ev A c) ∧ Below w.heap.size w w' := by
  rw [ev_some A h0]
  have HT := Lib.hid h.sents.typ
  have HB := Lib.hid (fun ob => (Below.refl w.heap.size w).alloc (Nat.le_refl _) ob)
  clear h
  go_enter Tryz.func12, Tryz.ntmps12
  go_wp2_with fail
  refine (as_miss _ _ _ (HT.out.below (HB.out _))).mono ?_
  rintro e w1 ⟨rfl, b1⟩
  have HB1 := Lib.hid (btrans (HB.out _) b1); clear b1
  go_wp2_with fail
  go_ret
  exact ⟨rfl, HB1.out⟩
set_option maxRecDepth 8000 in
theorem scr_Error (A : Nat → Addr) (c : Nat) (h1 : 1 ≤ c) (h10 : c ≤ 10) (w : World) (h : Lw A w) : Calls Tryz.prog 253 #[.pointer (some (A c))] w fun e w' => e = .returned (.string (errB c)) ∧ w = w' := by
  have hc := h.text c h1 h10
  clear h
  go_enter Tryz.func253, Tryz.ntmps253
  go_wp2_with fail
  go_ret
  exact ⟨rfl, rfl⟩

/-- since W: a script under way: what it has answered lies in out -/
structure SRun (A : Nat → Addr) (W : World) (cb : Nat) (K : ChL) (n sd : Nat) (x : CS) (pb : Nat) (out : Value) (ans : List ByteArray) (w : World) : Prop where
  ci : CmdIn A W cb K n sd x pb w
  pn : W.heap.size ≤ pb
  own : w.ownsRow W.heap.size 9 1 out ans.length (ans.map Value.string)
  sep : ∀ g, out.ownBlock = some g → ¬ K.foot cb g ∧ g ≠ pb
section
variable {A : Nat → Addr} {W w w' : World} {cb n sd pb : Nat} {K : ChL} {x y : CS} {out : Value} {ans : List ByteArray}
theorem SRun.next (h : SRun A W cb K n sd x pb out ans w) (k : Below w.heap.size w w') : SRun A W cb K n sd x pb out ans w' :=
  ⟨h.ci.next k, h.pn, ownsRow_other h.own (fun g hg => k.block g (h.own.lt g hg).2), h.sep⟩
theorem SRun.step (h : SRun A W cb K n sd x pb out ans w) {q t : Nat} (g : Left w (K.foot cb) cb sd q y w') (hq : q ≤ 900000) (hp : PlayQ t y) (ht : t ≤ 8000) (hlv : Lv y) : ∃ K' n', n' ≤ q ∧ SRun A W cb K' n' sd y pb out ans w' := by
  obtain ⟨K', m, hm, g⟩ := g
  have hpl : pb < w.heap.size := World.block_lt_of_cell? w _ h.ci.p0
  have h1 := hp.w; have h2 := hp.k; have h3 := hp.cy
  refine ⟨K', m, hm, ⟨h.ci.cn.of g, h.ci.lw, hp.inv, h.ci.sd, ?_, ?_, by omega, by omega, by omega, by omega, hlv⟩, h.pn, ownsRow_other h.own (fun b hb => g.keep.block b (h.own.lt b hb).2 (h.sep b hb).1), fun b hb => ⟨fun hf => ?_, (h.sep b hb).2⟩⟩
  · rw [g.keep.cell (p := ⟨pb, 0, none⟩) hpl h.ci.pf]; exact h.ci.p0
  · intro hf
    rcases g.foot pb hf with e | e
    · exact h.ci.pf e
    · omega
  · rcases g.foot b hf with e | e
    · exact (h.sep b hb).1 e
    · have := (h.own.lt b hb).2; omega
theorem SRun.append {g cp : Nat} {s : ByteArray} {ob : Obj} {w1 : World} (h : SRun A W cb K n sd x pb out ans w) (hg : (w.alloc ob).grownBy w1 out.ownBlock) (hor : out.ownBlock = some g ∨ g = w.heap.size + 1)
    (ho : w1.ownsRow W.heap.size 9 1 (.slice (some ⟨g, 0, none⟩) (ans.length + 1) cp) (ans.length + 1) (ans.map Value.string ++ [.string s])) :
    SRun A W cb K n sd x pb (.slice (some ⟨g, 0, none⟩) (ans.length + 1) cp) (ans ++ [s]) w1 := by
  have K1 : Keep (fun b => out.ownBlock = some b) w w1 := ((Keep.refl _ _).alloc ob).grown hg (fun k hk => .inl hk)
  have hpl : pb < w.heap.size := World.block_lt_of_cell? w _ h.ci.p0
  refine ⟨⟨h.ci.cn.other K1 (fun b hb => (h.own.lt b hb).1) (fun b hb e => (h.sep b e).1 hb), h.ci.lw, h.ci.inv, h.ci.sd, ?_, h.ci.pf, h.ci.w8, h.ci.n9, h.ci.k9, h.ci.cy, h.ci.lv⟩, h.pn, ?_, fun g' hg' => ?_⟩
  · rw [K1.cell (p := ⟨pb, 0, none⟩) hpl (fun e => (h.sep _ e).2 rfl)]; exact h.ci.p0
  · rw [List.length_append, List.map_append]; exact ho
  · have : g' = g := by simpa [Value.ownBlock] using hg'.symm
    subst this
    rcases hor with e | e
    · exact h.sep g' e
    · exact ⟨fun hf => by have := h.ci.cn.ch.footlt g' hf; omega, by omega⟩
end

theorem bare_out (A : Nat → Addr) {c : Nat} (h : c ≠ 0) : ev A c = .iface 235 (.pointer (some (A c))) := ev_some A h
set_option maxRecDepth 8000 in
set_option maxHeartbeats 2000000 in
theorem scr_Run (A : Nat → Addr) (sd : Nat) (hs : sd < 18446744073709551616) (ao : Option Addr) (len cap : Nat) (ls : List ByteArray) (w : World) (h : Lw A w) (R : RdR strE 1 w ao len cap ls) (hls : ∀ s ∈ ls, s.size ≤ 100000) (hl : len ≤ 100) :
    Calls Tryz.prog 5 #[.int .u64 sd, .slice ao len cap] w fun e w' => ∃ v, e = .returned (.tuple #[v, ev A 0]) ∧ Below w.heap.size w w' ∧ w'.ownsRow w.heap.size 9 1 v len ((CS.scriptA sd ls CS.new).map Value.string) := by
  obtain ⟨i0, hi, hz0, hz1, hz2⟩ := info_parts Tryz.infoStr
  have m2 : (2 : Nat) ∈ [1, 2, 3, 4, 5, 6, 7, 8, 9, 10] := by decide
  have m4 : (4 : Nat) ∈ [1, 2, 3, 4, 5, 6, 7, 8, 9, 10] := by decide
  have m5 : (5 : Nat) ∈ [1, 2, 3, 4, 5, 6, 7, 8, 9, 10] := by decide
  have m6 : (6 : Nat) ∈ [1, 2, 3, 4, 5, 6, 7, 8, 9, 10] := by decide
  have m7 : (7 : Nat) ∈ [1, 2, 3, 4, 5, 6, 7, 8, 9, 10] := by decide
  have m8 : (8 : Nat) ∈ [1, 2, 3, 4, 5, 6, 7, 8, 9, 10] := by decide
  have HL := Lib.hid h
  have HR := Lib.hid R
  have HLS := Lib.hid hls
  have hlz := R.size
  have HQ := Lib.hid (fun j (hj : j ≤ len) => show PlayQ j (CS.new.scriptS sd (ls.take j)) by
    have := PlayQ.script sd (ls.take j) PlayQ.new
    rw [List.length_take, Nat.zero_add, Nat.min_eq_left (by omega)] at this; exact this)
  have HLV := Lib.hid (fun j => show Lv (CS.new.scriptS sd (ls.take j)) by
    have hg : ∀ (l : List ByteArray) (y : CS), Lv y → Lv (y.scriptS sd l) := by
      intro l
      induction l with
      | nil => intro y hy; exact hy
      | cons s l ih => intro y hy; exact ih _ (CS.line_lv hy sd s)
    exact hg _ _ (show CS.new.level ≤ 4194305 from by decide))
  have HST := Lib.hid (fun j s (hv : ls[j]? = some s) => show CS.new.scriptS sd (ls.take (j + 1)) = ((CS.new.scriptS sd (ls.take j)).lineOp sd s).2.2 ∧ CS.scriptA sd (ls.take (j + 1)) CS.new = CS.scriptA sd (ls.take j) CS.new ++ [(CS.new.scriptS sd (ls.take j)).lineA sd s] by
    rw [List.take_add_one, hv]; exact ⟨CS.scriptS_snoc _ _ _ _, CS.scriptA_snoc _ _ _ _⟩)
  have HLA := Lib.hid (fun j (hj : j ≤ len) => show (CS.scriptA sd (ls.take j) CS.new).length = j by rw [CS.scriptA_len, List.length_take, Nat.min_eq_left (by omega)])
  have HLZ := Lib.hid hlz
  have d1 : decide ((100 : Int) < (len : Int)) = false := by simp; omega
  clear h R hls hlz
  go_enter Tryz.func5, Tryz.ntmps5
  go_wp2_with fail
  refine (chain_New A [1, 2, 3, 4, 5, 6, 7, 8, 9, 10] sd _ HL.out.sents.errs m2 m4 m5 m6 m7 m8).mono ?_
  rintro e w1 ⟨cb, K, rfl, g1⟩
  have hcn := g1.cn
  obtain ⟨wp, hwp⟩ : ∃ wp, w1.alloc (.cells #[.pointer (some ⟨cb, 0, none⟩)] 39) = wp := ⟨_, rfl⟩
  have BP : Below w1.heap.size w1 wp := by rw [← hwp]; exact (Below.refl _ _).alloc (Nat.le_refl _) _
  have hp0 : wp.cell? ⟨w1.heap.size, 0, none⟩ = some (.pointer (some ⟨cb, 0, none⟩)) := by rw [← hwp]; unfold World.cell?; rw [heap_alloc_new]; simp
  have HP0 := Lib.hid (show SRun A w cb K 3 sd CS.new w1.heap.size (.slice none 0 0) [] wp from
    ⟨⟨hcn.next BP, HL.out, CS.new_inv, hs, hp0, fun hf => by have := hcn.ch.footlt _ hf; omega, by decide, by decide, by decide, by decide, by decide⟩, hcn.below.size, World.ownsRow_nil _ _ _ _, fun g hg => by cases hg⟩)
  clear g1 hcn BP hp0
  go_wp2_with fail
  generalize hpb : w1.heap.size = pb at *
  clear hpb
  go_loopg [22, 7] len (fun g i out wr => ∃ (j n' : Nat) (K' : ChL), g + j = len ∧ i = .int .i64 j ∧ SRun A w cb K' n' sd (CS.new.scriptS sd (ls.take j)) pb out (CS.scriptA sd (ls.take j) CS.new) wr ∧ n' ≤ 3 + 200 * j)
  case atStart => exact ⟨0, 3, K, rfl, rfl, HP0.out, by decide⟩
  case round =>
    clear HP0
    obtain ⟨j, n1, K1, hg, rfl, hP, hn⟩ := hrel
    have HG := Lib.hid hg; have HP := Lib.hid hP; have HN := Lib.hid hn; clear hg hP hn
    by_cases hlt : j < len
    · obtain ⟨s, hv⟩ : ∃ s, ls[j]? = some s := ⟨_, List.getElem?_eq_getElem (by have := HLZ.out; omega)⟩
      obtain ⟨b, off, rfl, hbl, hcs⟩ := (HR.out.below HP.out.ci.cn.below).cells j s hv
      have c0 := hcs 0 (by decide)
      simp only [strE, List.getElem?_cons_zero, Nat.add_zero, Nat.mul_one] at c0
      have HV := Lib.hid (HST.out j s hv)
      have HQJ := Lib.hid (HQ.out j (by omega))
      have HQN := Lib.hid (HQ.out (j + 1) (by omega))
      have HLN := Lib.hid (HLV.out (j + 1))
      have hla := HLA.out j (by omega)
      have HPL := Lib.hid (scr_play A w cb K1 n1 sd _ pb wr s HP.out.ci (HLS.out s (List.mem_of_getElem? hv)))
      clear hv hcs
      rw [HV.out.1] at HQN HLN
      have hle := CS.line_le (CS.new.scriptS sd (ls.take j)) sd s
      have HLA1 := Lib.hid (show (CS.new.scriptS sd (ls.take j)).lineA sd s = if ((CS.new.scriptS sd (ls.take j)).lineOp sd s).2.1 = 0 then ((CS.new.scriptS sd (ls.take j)).lineOp sd s).1 else errB ((CS.new.scriptS sd (ls.take j)).lineOp sd s).2.1 from rfl)
      generalize (CS.new.scriptS sd (ls.take j)).lineA sd s = la at *
      generalize (CS.new.scriptS sd (ls.take j)).lineOp sd s = r at *
      generalize CS.new.scriptS sd (ls.take j) = y at *
      generalize CS.scriptA sd (ls.take j) CS.new = ans at *
      obtain ⟨rs, rc, rx⟩ := r
      simp only at hle HLA1 HV HQN HLN
      unfold Done at HPL
      simp only at HPL
      have hyw := HQJ.out.w
      have hnb := HN.out
      have HA := Lib.hid hla; clear hla
      have HSTP := Lib.hid (fun w2 (hl2 : Left wr (K1.foot cb) cb sd (n1 + 6 + y.s.W.length) rx w2) => HP.out.step hl2 (by omega) HQN.out (by omega) HLN.out)
      have HNB := Lib.hid (show ∀ q, q ≤ n1 + 6 + y.s.W.length → q ≤ 3 + 200 * (j + 1) from fun q hq => by omega)
      clear hyw hnb
      by_cases hc : rc = 0
      · subst hc
        rw [if_pos rfl] at HLA1
        rw [ev_nil] at HPL
        go_wp2_with fail
        refine HPL.out.mono ?_
        rintro e w2 ⟨rfl, hl2⟩
        obtain ⟨K2, n2, hn2, hP2⟩ := HSTP.out _ hl2
        have HP2 := Lib.hid hP2; have HN2 := Lib.hid hn2; clear hP2 hn2 hl2
        go_wp2_with (at_builtin; refine wpList_append_lies _ rfl (.tmp 37) (.tmp 39) 23 rfl w.heap.size 9 i0 (.string ⟨#[]⟩) 1 16 Tryz.underlying23 hi hz0 hz1 hz2 rfl (by decide) u7 ans.length (ans.map Value.string) rfl (HP2.out.own.alloc _) ⟨_, 0, none⟩ 1 1 [.string rs] rfl rfl (cell_one_at _ _ _ _ (by simp)) (by intro u hu; simp at hu; subst hu; rfl) (by decide) (by have := HA.out; unfold maxLen; omega) (by have := HA.out; omega) (by have := HP2.out.ci.cn.below.size; simp; omega) _ rfl ?_)
        intro g cp w4 ho2 hg2 hor hgl
        have HP4 := Lib.hid (HP2.out.append (s := rs) hg2 (by simpa using hor) ho2)
        clear ho2 hg2 hor hgl
        go_wp2_with fail
        have hg := HG.out
        go_roundg (len - (j + 1))
        case measure => omega
        case rel => exact ⟨j + 1, n2, K2, by omega, by go_num, by rw [HV.out.1, HV.out.2, HLA1.out]; exact HP4.out, HNB.out _ HN2.out⟩
      · rw [if_neg hc] at HLA1
        have hev := bare_out A hc
        have HBR := Lib.hid (fun wx (q : Lw A wx) => scr_bare A rc hc wx q)
        have HER := Lib.hid (fun wx (q : Lw A wx) => scr_Error A rc (by omega) hle wx q)
        have hmeth : ∀ (a : Addr) (wx : World), (method 391 235 (.pointer (some a)) "Error").run Tryz.prog wx = .ok (253, .pointer (some a)) wx := fun _ _ => by kernel_rfl
        rw [hev] at HPL HBR
        clear hev hc hle
        go_wp2_with fail
        refine HPL.out.mono ?_
        rintro e w2 ⟨rfl, hl2⟩
        obtain ⟨K2, n2, hn2, hP2⟩ := HSTP.out _ hl2
        have HP2 := Lib.hid hP2; have HN2 := Lib.hid hn2; clear hP2 hn2 hl2
        go_wp2_with fail
        refine (HBR.out _ HP2.out.ci.lib).mono ?_
        rintro e w3 ⟨rfl, b3⟩
        have HP3 := Lib.hid (HP2.out.next b3); clear b3
        go_wp2_with fail
        refine (HER.out _ HP3.out.ci.lib).mono ?_
        rintro e w5 ⟨rfl, rfl⟩
        go_wp2_with (at_builtin; refine wpList_append_lies _ rfl (.tmp 37) (.tmp 39) 23 rfl w.heap.size 9 i0 (.string ⟨#[]⟩) 1 16 Tryz.underlying23 hi hz0 hz1 hz2 rfl (by decide) u7 ans.length (ans.map Value.string) rfl (HP3.out.own.alloc _) ⟨_, 0, none⟩ 1 1 [.string (errB rc)] rfl rfl (cell_one_at _ _ _ _ (by simp)) (by intro u hu; simp at hu; subst hu; rfl) (by decide) (by have := HA.out; unfold maxLen; omega) (by have := HA.out; omega) (by have := HP3.out.ci.cn.below.size; simp; omega) _ rfl ?_)
        intro g cp w4 ho2 hg2 hor hgl
        have HP4 := Lib.hid (HP3.out.append (s := errB rc) hg2 (by simpa using hor) ho2)
        clear ho2 hg2 hor hgl
        go_wp2_with fail
        have hg := HG.out
        go_roundg (len - (j + 1))
        case measure => omega
        case rel => exact ⟨j + 1, n2, K2, by omega, by go_num, by rw [HV.out.1, HV.out.2, HLA1.out]; exact HP4.out, HNB.out _ HN2.out⟩
    · have hjl : j = len := by have := HG.out; omega
      subst hjl
      have hz := HLZ.out
      have hP := HP.out
      rw [List.take_of_length_le (by omega)] at hP
      have HF := Lib.hid hP
      have HLF := Lib.hid (show (CS.scriptA sd ls CS.new).length = j by rw [CS.scriptA_len]; exact hz)
      clear hP hz HP
      go_wp2_with fail
      go_ret2
      exact ⟨_, rfl, HF.out.ci.cn.below, by have := HF.out.own; rw [HLF.out] at this; exact this⟩
end Go.Proofs.YtajnfkmkombajabGreatDoor
namespace Go.Proofs.YtajnfkmkombajabGreatDoor
open Go.RowKit

theorem bstr_toList (s : ByteArray) : bstr s.data.toList = s := by simp [bstr]
theorem data_bstr (l : List UInt8) : (bstr l).data.toList = l := by simp [bstr]
theorem splitL_eq (l : List UInt8) : splitL (bstr l) = (splitSp l).map bstr := by
  have h := splitB_sp (bstr l)
  rw [data_bstr] at h
  have : ((splitL (bstr l)).map (·.data.toList)).map bstr = (splitSp l).map bstr := by
    rw [← h]; rfl
  rw [← this, List.map_map]
  conv => lhs; rw [← List.map_id (splitL (bstr l))]
  exact List.map_congr_left (fun x _ => (bstr_toList x).symm)
theorem itoaB_nat (u : Nat) : itoaB (u : Int) = bstr (Lib.decDigits u) := by
  unfold itoaB bstr Lib.itoa
  rw [if_neg (by omega)]
  rfl
theorem numOf_digits (u : Nat) (h : u ≤ 9999999) : numOf (bstr (Lib.decDigits u)) = some (u : Int) := by
  unfold numOf
  rw [data_bstr, atoiAll_digits u h]
  simp only
  rw [if_pos]
  refine ⟨?_, by omega, itoaB_nat u⟩
  have := digits_len_le u 7 (by omega) (by decide)
  simpa [bstr, ByteArray.size] using this
/-- a line of a word and its numbers -/
theorem lineOp_of (x : CS) (sd : Nat) {l w : List UInt8} {ns : List Nat} {i : Nat} (hl : splitSp l = w :: ns.map Lib.decDigits) (hw : cmdOf w = some i) (hf : readB (cmdForm i) (ns.map (fun u => bstr (Lib.decDigits u))) = some (ns.map (fun u : Nat => (u : Int)))) :
    x.lineOp sd (bstr l) = x.cmdOp sd i (ns.map (fun u : Nat => (u : Int))) := by
  unfold CS.lineOp
  rw [splitL_eq, hl]
  simp only [List.map_cons, List.headD_cons, List.drop_succ_cons, List.drop_zero, List.map_map, data_bstr, hw]
  have : List.map (bstr ∘ Lib.decDigits) ns = ns.map (fun u => bstr (Lib.decDigits u)) := rfl
  rw [this, hf]
theorem readZ_digits : ∀ (fs : List UInt8) (ns : List Nat), fs.length = ns.length → (∀ p ∈ fs.zip ns, p.2 ≤ 9999999 ∧ (p.1 = 100 → p.2 ≤ 9)) → readZ (fs.zip (ns.map (fun u => bstr (Lib.decDigits u)))) = some (ns.map (fun u : Nat => (u : Int)))
  | [], [], _, _ => rfl
  | [], _ :: _, h, _ => by cases h
  | _ :: _, [], h, _ => by cases h
  | f :: fs, u :: ns, h, hp => by
    have h1 := hp (f, u) (by simp)
    have ih := readZ_digits fs ns (by simpa using h) (fun p hq => hp p (by simp [hq]))
    show readZ ((f, bstr (Lib.decDigits u)) :: fs.zip (ns.map _)) = _
    unfold readZ
    have hf : formNum f (bstr (Lib.decDigits u)) = some (u : Int) := by
      unfold formNum
      rw [numOf_digits u h1.1]
      simp only
      rw [if_neg (fun e => by have := h1.2 e.1; omega)]
    rw [hf, ih]
    rfl
theorem readB_digits {fs : List UInt8} {ns : List Nat} (h : fs.length = ns.length) (hp : ∀ p ∈ fs.zip ns, p.2 ≤ 9999999 ∧ (p.1 = 100 → p.2 ≤ 9)) : readB fs (ns.map (fun u => bstr (Lib.decDigits u))) = some (ns.map (fun u : Nat => (u : Int))) := by
  unfold readB
  rw [if_pos (by simpa using h)]
  exact readZ_digits fs ns h hp

theorem dd_small (u : Nat) (h : u < 10) : Lib.decDigits u = [UInt8.ofNat (48 + u)] := by rw [Lib.decDigits, dif_pos h]
theorem dd_big (u : Nat) (h : ¬ u < 10) : Lib.decDigits u = Lib.decDigits (u / 10) ++ [UInt8.ofNat (48 + u % 10)] := by rw [Lib.decDigits, dif_neg h]
theorem dd500 : Lib.decDigits 500 = [53, 48, 48] := by
  rw [dd_big 500 (by decide), dd_big (500 / 10) (by decide), dd_small (500 / 10 / 10) (by decide)]; decide
theorem dd1500 : Lib.decDigits 1500 = [49, 53, 48, 48] := by
  rw [dd_big 1500 (by decide), dd_big (1500 / 10) (by decide), dd_big (1500 / 10 / 10) (by decide), dd_small (1500 / 10 / 10 / 10) (by decide)]; decide
theorem dd9500 : Lib.decDigits 9500 = [57, 53, 48, 48] := by
  rw [dd_big 9500 (by decide), dd_big (9500 / 10) (by decide), dd_big (9500 / 10 / 10) (by decide), dd_small (9500 / 10 / 10 / 10) (by decide)]; decide
theorem dd1 : Lib.decDigits 1 = [49] := by rw [dd_small 1 (by decide)]; decide
theorem dd4 : Lib.decDigits 4 = [52] := by rw [dd_small 4 (by decide)]; decide

theorem turn_zero {x : CS} (h : x.Inv) (hc : x.cycle ≤ 100) (hl : x.level ≤ 400) : x.turnC 0 = 0 := by
  unfold CS.turnC
  have := h.cy; have := h.lv
  rw [if_pos]
  exact ⟨⟨by omega, by omega⟩, ⟨by omega, by omega⟩, by decide, by decide⟩
theorem cycle_first {x : CS} (h : x.Inv) (sd : Nat) (hc : x.cycle = 0) (hl : x.level = 0) : (x.cycleOp sd).1 = 0 ∧ (x.cycleOp sd).2.cycle = 1 ∧ (x.cycleOp sd).2.level = 4 := by
  have e : x.left = 4 := by unfold CS.left; rw [hl]; rfl
  have step : ∀ (y : CS) (m : Nat), y.Inv → y.cycle = 0 → y.level ≤ 3 → CS.cycleN sd (m + 1) y = CS.cycleN sd m (y.btS sd 0) ∧ (y.btS sd 0).Inv ∧ (y.btS sd 0).level = y.level + 1 ∧ ((y.level + 1) % 4 = 0 → (y.btS sd 0).cycle = 1) ∧ ((y.level + 1) % 4 ≠ 0 → (y.btS sd 0).cycle = 0) := by
    intro y m hy hyc hyl
    have ht := turn_zero hy (by omega) (by omega)
    obtain ⟨b1, b2, b3⟩ := CS.bt_step hy sd ht
    refine ⟨?_, (CS.bt_keeps hy sd 0).1, b1, fun q => by rw [b2 q, hyc]; rfl, fun q => by rw [b3 q, hyc]⟩
    show (if y.turnC 0 ≠ 0 then _ else _) = _
    rw [if_neg (by simp [ht])]
  unfold CS.cycleOp
  rw [e]
  obtain ⟨a1, a2, a3, -, a5⟩ := step x 3 h hc (by omega)
  rw [a1]
  obtain ⟨b1, b2, b3, -, b5⟩ := step _ 2 a2 (a5 (by omega)) (by omega)
  rw [b1]
  obtain ⟨c1, c2, c3, -, c5⟩ := step _ 1 b2 (b5 (by omega)) (by omega)
  rw [c1]
  obtain ⟨d1, d2, d3, d4, -⟩ := step _ 0 c2 (c5 (by omega)) (by omega)
  rw [d1]
  exact ⟨rfl, d4 (by omega), by show (CS.btS _ sd 0).level = 4; omega⟩

def helloLines : List ByteArray := [⟨#[115, 116, 97, 107, 101, 32, 52, 32, 49, 32, 53, 48, 48]⟩, ⟨#[115, 116, 97, 107, 101, 100, 32, 49]⟩, ⟨#[104, 97, 115, 32, 52]⟩, ⟨#[99, 121, 99, 108, 101]⟩, ⟨#[97, 116]⟩]
def helloTold : List ByteArray := [⟨#[111, 107]⟩, ⟨#[49, 53, 48, 48]⟩, ⟨#[57, 53, 48, 48]⟩, ⟨#[111, 107]⟩, ⟨#[49, 32, 52]⟩]
theorem line1 (x : CS) (sd : Nat) : x.lineOp sd ⟨#[115, 116, 97, 107, 101, 32, 52, 32, 49, 32, 53, 48, 48]⟩ = x.cmdOp sd 1 [4, 1, 500] :=
  lineOp_of x sd (l := [115, 116, 97, 107, 101, 32, 52, 32, 49, 32, 53, 48, 48]) (w := [115, 116, 97, 107, 101]) (ns := [4, 1, 500]) (i := 1) (by rw [List.map_cons, List.map_cons, List.map_cons, dd4, dd1, dd500]; decide) (by decide) (readB_digits rfl (by decide))
theorem line2 (x : CS) (sd : Nat) : x.lineOp sd ⟨#[115, 116, 97, 107, 101, 100, 32, 49]⟩ = x.cmdOp sd 9 [1] :=
  lineOp_of x sd (l := [115, 116, 97, 107, 101, 100, 32, 49]) (w := [115, 116, 97, 107, 101, 100]) (ns := [1]) (i := 9) (by rw [List.map_cons, dd1]; decide) (by decide) (readB_digits rfl (by decide))
theorem line3 (x : CS) (sd : Nat) : x.lineOp sd ⟨#[104, 97, 115, 32, 52]⟩ = x.cmdOp sd 8 [4] :=
  lineOp_of x sd (l := [104, 97, 115, 32, 52]) (w := [104, 97, 115]) (ns := [4]) (i := 8) (by rw [List.map_cons, dd4]; decide) (by decide) (readB_digits rfl (by decide))
theorem line4 (x : CS) (sd : Nat) : x.lineOp sd ⟨#[99, 121, 99, 108, 101]⟩ = x.cmdOp sd 4 [] :=
  lineOp_of x sd (l := [99, 121, 99, 108, 101]) (w := [99, 121, 99, 108, 101]) (ns := []) (i := 4) (by decide) (by decide) (readB_digits rfl (by decide))
theorem line5 (x : CS) (sd : Nat) : x.lineOp sd ⟨#[97, 116]⟩ = x.cmdOp sd 14 [] :=
  lineOp_of x sd (l := [97, 116]) (w := [97, 116]) (ns := []) (i := 14) (by decide) (by decide) (readB_digits rfl (by decide))
theorem hello_facts : CS.scriptA 3 helloLines CS.new = helloTold := by
  have s1 : (CS.new.stakeOp 4 1 500).1 = 0 := by decide
  have s2 : (CS.new.stakeOp 4 1 500).2.s.staked 1 = 1500 := by decide
  have s3 : (if ownB 4 then (CS.new.stakeOp 4 1 500).2.p.at 4 else 0) = 9500 := by decide
  have s4 := (CS.stake_inv CS.new_inv 4 1 500).1
  obtain ⟨c1, c2, c3⟩ := cycle_first s4 3 (by decide) (by decide)
  unfold helloLines helloTold
  simp only [CS.scriptA, CS.lineA, line1, line2, line3, line4, line5]
  simp only [CS.cmdOp, List.getD_cons_zero, List.getD_cons_succ, s1, s2, s3, c1, c2, c3, if_true]
  rw [show (1500 : Int) = ((1500 : Nat) : Int) from rfl, show (9500 : Int) = ((9500 : Nat) : Int) from rfl, show (1 : Int) = ((1 : Nat) : Int) from rfl, show (4 : Int) = ((4 : Nat) : Int) from rfl, itoaB_nat, itoaB_nat, itoaB_nat, itoaB_nat, dd1500, dd9500, dd1, dd4]
  rfl
end Go.Proofs.YtajnfkmkombajabGreatDoor
