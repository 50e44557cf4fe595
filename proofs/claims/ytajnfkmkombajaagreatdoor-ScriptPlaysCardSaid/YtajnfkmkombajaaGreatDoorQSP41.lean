/-
  ScriptPlays: the walk.
-/
import Derived.Test.YtajnfkmkombajaaGreatDoorQSP39
set_option linter.unusedVariables false
set_option linter.unusedSimpArgs false
set_option linter.unusedVariables false
namespace Go.Proofs.YtajnfkmkombajaaGreatDoor
open Go Go.RowKit Go.Maps
theorem plays_big (A : Nat → Addr) (sd : Nat) (ao : Option Addr) (len cap : Nat) (w : World) (h : Lw A w) (hbad : 60 < len) :
   Calls Tryz.prog 3 #[.int .u64 sd, .slice ao len cap] w fun e w' => e = .returned (.bool true) ∧ Below w.heap.size w w' := by
 have HH := Lib.hid (law_hello A w h)
 have e1 : decide ((60 : Int) < (len : Int)) = true := decide_eq_true (by omega)
 have e1' : decide (60 < len) = true := decide_eq_true hbad
 clear h hbad
 go_enter Tryz.func3, Tryz.ntmps3
 go_wp2_with fail
 refine HH.out.mono ?_
 rintro e w1 ⟨rfl, b1⟩
 go_wp2_with fail
 go_ret
 exact ⟨rfl, b1⟩
set_option maxRecDepth 8000 in
set_option maxHeartbeats 4000000 in
theorem plays_ok (A : Nat → Addr) (sd : Nat) (hs : sd < 18446744073709551616) (ao : Option Addr) (len cap : Nat) (ls : List LineX) (w : World) (h : Lw A w) (R : RdR LineX.enc 2 w ao len cap ls) (hok : ∀ x ∈ ls, x.ok w) (h60 : len ≤ 60) :
   Calls Tryz.prog 3 #[.int .u64 sd, .slice ao len cap] w fun e w' => e = .returned (.bool true) ∧ Below w.heap.size w w' := by
 obtain ⟨i0, hi, hz0, hz1, hz2⟩ := info_parts Tryz.infoStr
 have HH := Lib.hid (law_hello A w h)
 have HL := Lib.hid h
 have HR := Lib.hid R
 have HOK := Lib.hid hok
 have HSD := Lib.hid hs
 have HSZ := Lib.hid R.size
 have e1 : decide ((60 : Int) < (len : Int)) = false := decide_eq_false (by omega)
 have e1' : decide (60 < len) = false := decide_eq_false (by omega)
 have HQ := Lib.hid (fun LS => show PlayQ LS.length (CS.new.scriptS sd LS) by
   have := PlayQ.script sd LS PlayQ.new
   rwa [Nat.zero_add] at this)
 have HLV := Lib.hid (fun LS => show Lv (CS.new.scriptS sd LS) by
   have hg : ∀ (l : List ByteArray) (y : CS), Lv y → Lv (y.scriptS sd l) := by
     intro l
     induction l with
     | nil => intro y hy; exact hy
     | cons s l ih => intro y hy; exact ih _ (CS.line_lv hy sd s)
   exact hg _ _ (show CS.new.level ≤ 4194305 from by decide))
 clear h R hok hs
 go_enter Tryz.func3, Tryz.ntmps3
 go_wp2_with fail
 refine HH.out.mono ?_
 rintro e wh ⟨rfl, bh⟩
 have HBH := Lib.hid bh; clear bh HH
 go_wp2_with fail
 refine (refc_New sd _).mono ?_
 rintro e w1 ⟨cb, K0, rfl, g1⟩
 have b1 : Below wh.heap.size wh w1 := Keep.after (Below.refl _ _) g1.keep (fun i hi => hi.elim)
 have HP1 := Lib.hid (show SPl w cb K0 sd CS.new [pic0, pic0, pic0] (.slice none 0 0) (.slice none 0 0) [] [] w1 from
   ⟨⟨btrans HBH.out b1, g1.ch, fun b hb => (g1.foot b hb).elim (fun e => e.elim) (fun q => Nat.le_trans HBH.out.size q.1)⟩, PicsOf.new, World.ownsRow_nil _ _ _ _, World.ownsRow_nil _ _ _ _, (fun g hg => by cases hg), (fun g hg => by cases hg), (fun g hg => by cases hg)⟩)
 clear g1 b1 HBH
 go_wp2_with fail
 go_loopg [6, 7, 9] len (fun g lv wv i wr => ∃ (j : Nat) (K : RChL) (Z : List (List Int)) (LS : List ByteArray), g + j = len ∧ i = .int .i64 j ∧ LS.length ≤ j ∧ SPl w cb K sd (CS.new.scriptS sd LS) Z lv wv LS (CS.scriptA sd LS CS.new) wr ∧ (∀ s ∈ LS, s.size ≤ 100000))
 case atStart => exact ⟨0, K0, _, [], rfl, rfl, Nat.le_refl _, HP1.out, (fun s hs => by cases hs)⟩
 case round =>
   clear HP1
   obtain ⟨j, K, Z, LS, hg, rfl, hlj, hp, hsz⟩ := hrel
   have HG := Lib.hid hg; have HP := Lib.hid hp; have HLJ := Lib.hid hlj; have HLZ := Lib.hid hsz
   have HLA := Lib.hid (show (CS.scriptA sd LS CS.new).length = LS.length from CS.scriptA_len _ _ _)
   clear hg hlj hp hsz
   by_cases hlt : j < len
   · obtain ⟨x, hx⟩ : ∃ x, ls[j]? = some x := ⟨_, List.getElem?_eq_getElem (by have := HSZ.out; omega)⟩
     obtain ⟨bb, off, rfl, hbl, hcs⟩ := (HR.out.below HP.out.cn.below).cells j x hx
     obtain ⟨hxr, hxw⟩ := HOK.out x (List.mem_of_getElem? hx)
     have c0 := hcs 0 (by decide)
     have c1 := hcs 1 (by decide)
     have hxn : ∀ n ∈ x.ns, n ≤ 9223372036854775807 := fun n hn => by
       have := hxw n hn
       simp [Lit.wf, IntKind.min, IntKind.max, IntKind.signed, IntKind.bits] at this
       omega
     have HXW := Lib.hid hxr
     have HXR := Lib.hid (hxr.below HP.out.cn.below)
     have HXN := Lib.hid hxn
     have hx5 := hxr.size
     obtain ⟨wd, xa, xl, xc, xn⟩ := x
     simp only at HXR HXN HXW hx5
     simp only [LineX.enc, List.getElem?_cons_zero, List.getElem?_cons_succ, Nat.add_zero] at c0 c1
     have hxm : xl ≤ 9223372036854775807 := by have := HXR.out.lc; have := HXR.out.cm; unfold maxLen at *; omega
     clear hcs hx hxr hxw hxn hbl
     by_cases h5 : 5 < xl
     · have f5 : decide ((5 : Int) < (xl : Int)) = true := decide_eq_true (by omega)
       have f5' : decide (5 < xl) = true := decide_eq_true h5
       clear h5 hxm hx5
       go_wp2_with fail
       go_ret
       exact ⟨rfl, HP.out.cn.below⟩
     · have f5 : decide ((5 : Int) < (xl : Int)) = false := decide_eq_false (by omega)
       have f5' : decide (5 < xl) = false := decide_eq_false h5
       clear h5 hxm
       by_cases h60' : 60 < wd.size
       · have f6 : decide ((60 : Int) < (wd.size : Int)) = true := decide_eq_true (by omega)
         have f6' : decide (60 < wd.size) = true := decide_eq_true h60'
         clear h60' hx5
         go_wp2_with fail
         go_ret
         exact ⟨rfl, HP.out.cn.below⟩
       · have f6 : decide ((60 : Int) < (wd.size : Int)) = false := decide_eq_false (by omega)
         have f6' : decide (60 < wd.size) = false := decide_eq_false h60'
         have HCALL := Lib.hid (fun (wx : World) (k : Below wr.heap.size wr wx) => law_lineOf wd xa xl xc xn wx (HXR.out.below k) (by omega) HXN.out)
         have HSS := Lib.hid (fun (s : ByteArray) (e : lineB wd xn = some s) => show s.size ≤ 100000 from lineB_size e (by omega) (fun n hn => ⟨lineB_pos e n hn, HXN.out n hn⟩))
         clear h60' hx5
         cases hlb : lineB wd xn with
         | none =>
           rw [hlb] at HCALL
           simp only [lineV, Option.getD_none, Option.isSome_none] at HCALL
           clear hlb HSS
           go_wp2_with fail
           refine (HCALL.out _ (Below.refl _ _)).mono ?_
           rintro e w2 ⟨rfl, b2⟩
           have HP2 := Lib.hid (HP.out.next b2)
           clear b2
           go_wp2_with fail
           have hg := HG.out
           go_roundg (len - (j + 1))
           case measure => omega
           case rel => exact ⟨j + 1, K, Z, LS, by omega, by go_num, by have := HLJ.out; omega, HP2.out, HLZ.out⟩
         | some s =>
           obtain ⟨ix, hix, -⟩ := lineB_cmd hlb
           obtain ⟨hop, hsay⟩ := line_says (CS.new.scriptS sd LS) sd hlb hix
           have HSN := Lib.hid (show CS.new.scriptS sd (LS ++ [s]) = ((CS.new.scriptS sd LS).cmdOp sd ix xn).2.2 ∧ CS.scriptA sd (LS ++ [s]) CS.new = CS.scriptA sd LS CS.new ++ [tellB ((CS.new.scriptS sd LS).cmdOp sd ix xn).2.1 ((CS.new.scriptS sd LS).cmdOp sd ix xn).1] by
             rw [CS.scriptS_snoc, CS.scriptA_snoc, hsay, hop]; exact ⟨rfl, rfl⟩)
           have hq := HQ.out LS
           have hlj := HLJ.out
           have hq1 := hq.w; have hq2 := hq.k; have hq3 := hq.cy; have hq4 := hq.inv
           have HANS := Lib.hid (fun (wx : World) (k : Below wr.heap.size wr wx) => plays_answer cb K sd (CS.new.scriptS sd LS) Z wx wd xa xl xc xn ix s (HP.out.next k).cn.go hq4 HP.out.pic HSD.out (by omega) (by omega) (by omega) (HLV.out LS) (HXR.out.below k)
             (fun b off e h0 hf => by
               obtain ⟨b', off', e', hc'⟩ := HXW.out.cells 0 h0
               rw [e] at e'
               cases e'
               have := World.block_lt_of_cell? w _ hc'
               simp only at this
               have := HP.out.cn.new b hf
               omega) hlb hix)
           rw [hlb] at HCALL
           have hss := HSS.out s hlb
           simp only [lineV, Option.getD_some, Option.isSome_some] at HCALL
           have HZ1 := Lib.hid (show ∀ t ∈ LS ++ [s], t.size ≤ 100000 from fun t ht => by
             rcases List.mem_append.1 ht with q1 | q1
             · exact HLZ.out t q1
             · obtain rfl := List.mem_singleton.1 q1; exact hss)
           have HLJ1 := Lib.hid (show (LS ++ [s]).length ≤ j + 1 by rw [List.length_append]; simp; omega)
           have hl40 : LS.length ≤ 60 := by omega
           have hla := HLA.out
           unfold PlayPost Left2 at HANS
           clear hlb HSS hss hix hop hsay hq hq1 hq2 hq3 hq4 hlj
           generalize (CS.new.scriptS sd LS).cmdOp sd ix xn = rr at *
           obtain ⟨r1, rc, ry⟩ := rr
           simp only at HANS HSN
           generalize tellB rc r1 = tl at *
           generalize CS.new.scriptS sd LS = y at *
           generalize CS.scriptA sd LS CS.new = AS at *
           have ha40 : AS.length ≤ 60 := by omega
           clear hla
           go_wp2_with fail
           refine (HCALL.out _ (Below.refl _ _)).mono ?_
           rintro e w2 ⟨rfl, b2⟩
           have HB2 := Lib.hid b2
           have HP2 := Lib.hid (HP.out.next b2)
           have k0 := (b2.cell (World.block_lt_of_cell? wr _ c0)).trans c0
           have k1 := (b2.cell (World.block_lt_of_cell? wr _ c1)).trans c1
           clear b2
           go_wp2_with fail
           refine (HANS.out _ HB2.out).mono ?_
           rintro e w3 ⟨rfl, K3, Z3, g3, p3⟩
           have HP3 := Lib.hid (HP2.out.step g3 p3)
           clear g3 p3
           go_wp2_with (at_builtin; refine wpList_append_lies _ rfl (.tmp 64) (.tmp 66) 25 rfl w.heap.size 9 i0 (.string ⟨#[]⟩) 1 16 Tryz.underlying25 hi hz0 hz1 hz2 rfl (by decide) u6 LS.length (LS.map Value.string) rfl (HP3.out.o1.alloc _) ⟨_, 0, none⟩ 1 1 [.string s] rfl rfl (cell_one_at _ _ _ _ (by simp)) (by intro u hu; simp at hu; subst hu; rfl) (by decide) (by unfold maxLen; omega) (by omega) (by have := HP3.out.cn.below.size; simp; omega) _ rfl ?_)
           intro g cp w4 ho2 hg2 hor hgl
           have HP4 := Lib.hid (HP3.out.app1 (s := s) hg2 (by simpa using hor) ho2)
           clear ho2 hg2 hor hgl
           go_wp2_with (at_builtin; refine wpList_append_lies _ rfl (.tmp 68) (.tmp 70) 25 rfl w.heap.size 9 i0 (.string ⟨#[]⟩) 1 16 Tryz.underlying25 hi hz0 hz1 hz2 rfl (by decide) u7 AS.length (AS.map Value.string) rfl (HP4.out.o2.alloc _) ⟨_, 0, none⟩ 1 1 [.string tl] rfl rfl (cell_one_at _ _ _ _ (by simp)) (by intro u hu; simp at hu; subst hu; rfl) (by decide) (by unfold maxLen; omega) (by omega) (by have := HP4.out.cn.below.size; simp; omega) _ rfl ?_)
           intro g' cp' w5 ho2 hg2 hor hgl
           have HP5 := Lib.hid (HP4.out.app2 (s := tl) hg2 (by simpa using hor) ho2)
           clear ho2 hg2 hor hgl
           go_wp2_with fail
           have hg := HG.out
           go_roundg (len - (j + 1))
           case measure => omega
           case rel => exact ⟨j + 1, K3, Z3, LS ++ [s], by omega, by go_num, HLJ1.out, by rw [HSN.out.1, HSN.out.2]; exact by simpa using HP5.out, HZ1.out⟩
   · have hjl : j = len := by have := HG.out; omega
     subst hjl
     have hl40 : LS.length ≤ 100 := by have := HLJ.out; omega
     obtain ⟨vo, vc, rfl, hv⟩ := RdR.own_str HP.out.o1
     obtain ⟨va, vac, rfl, ha⟩ := RdR.own_str HP.out.o2
     have HV := Lib.hid hv; have HVA := Lib.hid ha
     rw [HLA.out] at HVA ⊢
     clear hv ha
     go_wp2_with fail
     refine (scr_Run A sd HSD.out vo LS.length vc LS wr (HL.out.below HP.out.cn.below) HV.out HLZ.out hl40).mono ?_
     rintro e w3 ⟨vr, rfl, b3, o3⟩
     obtain ⟨aa, ca, rfl, RA⟩ := RdR.own_str o3
     have HB3 := Lib.hid (btrans HP.out.cn.below b3)
     have HRA := Lib.hid RA
     have HVA3 := Lib.hid (HVA.out.below b3)
     clear b3 o3 RA
     rw [ev_nil]
     go_wp2_with fail
     refine (ref_SameTexts aa va LS.length ca vac (CS.scriptA sd LS CS.new) w3 HRA.out HVA3.out).mono ?_
     rintro e w5 ⟨rfl, k5, rfl⟩
     go_wp2_with fail
     go_ret
     exact ⟨rfl, HB3.out.drewN k5⟩
theorem plays_all (A : Nat → Addr) (sd : Nat) (hs : sd < 18446744073709551616) (ao : Option Addr) (len cap : Nat) (ls : List LineX) (w : World) (h : Lw A w) (R : RdR LineX.enc 2 w ao len cap ls) (hok : ∀ x ∈ ls, x.ok w) :
   Calls Tryz.prog 3 #[.int .u64 sd, .slice ao len cap] w fun e w' => e = .returned (.bool true) ∧ Below w.heap.size w w' := by
 by_cases hbad : 60 < len
 · exact plays_big A sd ao len cap w h hbad
 · exact plays_ok A sd hs ao len cap ls w h R hok (by omega)
end Go.Proofs.YtajnfkmkombajaaGreatDoor
