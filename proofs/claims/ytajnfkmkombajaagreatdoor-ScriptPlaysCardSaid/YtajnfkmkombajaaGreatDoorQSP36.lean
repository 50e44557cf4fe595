/-
  Scripts: an error's own text; a whole script.
  Plain: the script of the closed fact hello. No program in sight.
  Contract of the document's SameTexts, at the same texts; the closed fact hello.
  A statement's command lines: the form of a word, decimal texts, the line.
-/
import Derived.Test.YtajnfkmkombajaaGreatDoorQSP35
import Derived.Test.YtajnfkmkombajaaGreatDoorQSP20
import Derived.Deep.LoopGhost
import Derived.Deep.AppendLies
import Derived.Test.YtajnfkmkombajaaGreatDoorQSP21
import Derived.Test.YtajnfkmkombajaaGreatDoorQSP01
import Derived.Deep.QuietTactic
import Derived.BigQuiet
import Derived.Laws.IdiomStrings
set_option linter.unusedVariables false
set_option linter.unusedSimpArgs false
set_option linter.unusedVariables false
namespace Go.Proofs.YtajnfkmkombajaaGreatDoor
open Go Go.RowKit Go.Maps
theorem Tryz.infoStr : (Tryz.prog.info? 9).map (fun i => (i.zero, i.size, i.bytes)) = some (some (.string ⟨#[]⟩), 1, 16) := by kernel_rfl
set_option maxRecDepth 8000 in
theorem scr_bare (A : Nat → Addr) (c : Nat) (h0 : c ≠ 0) (w : World) (h : Lw A w) : Calls Tryz.prog 33 #[ev A c] w fun e w' => e = .returned (ev A c) ∧ Below w.heap.size w w' := by
 rw [ev_some A h0]
 have HT := Lib.hid h.sents.typ
 have HB := Lib.hid (fun ob => (Below.refl w.heap.size w).alloc (Nat.le_refl _) ob)
 clear h
 go_enter Tryz.func33, Tryz.ntmps33
 go_wp2_with fail
 refine (as_miss _ _ _ (HT.out.below (HB.out _))).mono ?_
 rintro e w1 ⟨rfl, b1⟩
 have HB1 := Lib.hid (btrans (HB.out _) b1); clear b1
 go_wp2_with fail
 go_ret
 exact ⟨rfl, HB1.out⟩
set_option maxRecDepth 8000 in
theorem scr_Error (A : Nat → Addr) (c : Nat) (h1 : 1 ≤ c) (h10 : c ≤ 10) (w : World) (h : Lw A w) : Calls Tryz.prog 316 #[.pointer (some (A c))] w fun e w' => e = .returned (.string (errB c)) ∧ w = w' := by
 have hc := h.text c h1 h10
 clear h
 go_enter Tryz.func316, Tryz.ntmps316
 go_wp2_with fail
 go_ret
 exact ⟨rfl, rfl⟩
structure SRun (A : Nat → Addr) (W : World) (cb : Nat) (K : ChL) (n sd : Nat) (x : CS) (pb : Nat) (out : Value) (ans : List ByteArray) (w : World) : Prop where
 ci : CmdIn A W cb K n sd x pb w
 pn : W.heap.size ≤ pb
 own : w.ownsRow W.heap.size 9 1 out ans.length (ans.map Value.string)
 sep : ∀ g, out.ownBlock = some g → ¬ K.foot cb g ∧ g ≠ pb
section
variable {A : Nat → Addr} {W w w' : World} {cb n sd pb : Nat} {K : ChL} {x y : CS} {out : Value} {ans : List ByteArray}
theorem SRun.next (h : SRun A W cb K n sd x pb out ans w) (k : Below w.heap.size w w') : SRun A W cb K n sd x pb out ans w' :=
 ⟨h.ci.next k, h.pn, ownsRow_other h.own (fun g hg => k.block g (h.own.lt g hg).2), h.sep⟩
theorem SRun.step (h : SRun A W cb K n sd x pb out ans w) {q t : Nat} (g : Left w (K.foot cb) cb sd q y w') (hq : q ≤ 900000) (hp : PlayQ t y) (ht : t ≤ 8000) (hlv : Lv y) : ∃ K' n', n' ≤ q ∧ SRun A W cb K' n' sd y pb out ans w' := by
 obtain ⟨K', m, hm, g⟩ := g
 have hpl : pb < w.heap.size := World.block_lt_of_cell? w _ h.ci.p0
 have h1 := hp.w; have h2 := hp.k; have h3 := hp.cy
 refine ⟨K', m, hm, ⟨h.ci.cn.of g, h.ci.lw, hp.inv, h.ci.sd, ?_, ?_, by omega, by omega, by omega, by omega, hlv⟩, h.pn, ownsRow_other h.own (fun b hb => g.keep.block b (h.own.lt b hb).2 (h.sep b hb).1), fun b hb => ⟨fun hf => ?_, (h.sep b hb).2⟩⟩
 · rw [g.keep.cell (p := ⟨pb, 0, none⟩) hpl h.ci.pf]; exact h.ci.p0
 · intro hf
   rcases g.foot pb hf with e | e
   · exact h.ci.pf e
   · omega
 · rcases g.foot b hf with e | e
   · exact (h.sep b hb).1 e
   · have := (h.own.lt b hb).2; omega
theorem SRun.append {g cp : Nat} {s : ByteArray} {ob : Obj} {w1 : World} (h : SRun A W cb K n sd x pb out ans w) (hg : (w.alloc ob).grownBy w1 out.ownBlock) (hor : out.ownBlock = some g ∨ g = w.heap.size + 1)
   (ho : w1.ownsRow W.heap.size 9 1 (.slice (some ⟨g, 0, none⟩) (ans.length + 1) cp) (ans.length + 1) (ans.map Value.string ++ [.string s])) :
   SRun A W cb K n sd x pb (.slice (some ⟨g, 0, none⟩) (ans.length + 1) cp) (ans ++ [s]) w1 := by
 have K1 : Keep (fun b => out.ownBlock = some b) w w1 := ((Keep.refl _ _).alloc ob).grown hg (fun k hk => .inl hk)
 have hpl : pb < w.heap.size := World.block_lt_of_cell? w _ h.ci.p0
 refine ⟨⟨h.ci.cn.other K1 (fun b hb => (h.own.lt b hb).1) (fun b hb e => (h.sep b e).1 hb), h.ci.lw, h.ci.inv, h.ci.sd, ?_, h.ci.pf, h.ci.w8, h.ci.n9, h.ci.k9, h.ci.cy, h.ci.lv⟩, h.pn, ?_, fun g' hg' => ?_⟩
 · rw [K1.cell (p := ⟨pb, 0, none⟩) hpl (fun e => (h.sep _ e).2 rfl)]; exact h.ci.p0
 · rw [List.length_append, List.map_append]; exact ho
 · have : g' = g := by simpa [Value.ownBlock] using hg'.symm
   subst this
   rcases hor with e | e
   · exact h.sep g' e
   · exact ⟨fun hf => by have := h.ci.cn.ch.footlt g' hf; omega, by omega⟩
end
theorem bare_out (A : Nat → Addr) {c : Nat} (h : c ≠ 0) : ev A c = .iface 288 (.pointer (some (A c))) := ev_some A h
set_option maxRecDepth 8000 in
set_option maxHeartbeats 2000000 in
theorem scr_Run (A : Nat → Addr) (sd : Nat) (hs : sd < 18446744073709551616) (ao : Option Addr) (len cap : Nat) (ls : List ByteArray) (w : World) (h : Lw A w) (R : RdR strE 1 w ao len cap ls) (hls : ∀ s ∈ ls, s.size ≤ 100000) (hl : len ≤ 100) :
   Calls Tryz.prog 8 #[.int .u64 sd, .slice ao len cap] w fun e w' => ∃ v, e = .returned (.tuple #[v, ev A 0]) ∧ Below w.heap.size w w' ∧ w'.ownsRow w.heap.size 9 1 v len ((CS.scriptA sd ls CS.new).map Value.string) := by
 obtain ⟨i0, hi, hz0, hz1, hz2⟩ := info_parts Tryz.infoStr
 have m2 : (2 : Nat) ∈ [1, 2, 3, 4, 5, 6, 7, 8, 9, 10] := by decide
 have m4 : (4 : Nat) ∈ [1, 2, 3, 4, 5, 6, 7, 8, 9, 10] := by decide
 have m5 : (5 : Nat) ∈ [1, 2, 3, 4, 5, 6, 7, 8, 9, 10] := by decide
 have m6 : (6 : Nat) ∈ [1, 2, 3, 4, 5, 6, 7, 8, 9, 10] := by decide
 have m7 : (7 : Nat) ∈ [1, 2, 3, 4, 5, 6, 7, 8, 9, 10] := by decide
 have m8 : (8 : Nat) ∈ [1, 2, 3, 4, 5, 6, 7, 8, 9, 10] := by decide
 have HL := Lib.hid h
 have HR := Lib.hid R
 have HLS := Lib.hid hls
 have hlz := R.size
 have HQ := Lib.hid (fun j (hj : j ≤ len) => show PlayQ j (CS.new.scriptS sd (ls.take j)) by
   have := PlayQ.script sd (ls.take j) PlayQ.new
   rw [List.length_take, Nat.zero_add, Nat.min_eq_left (by omega)] at this; exact this)
 have HLV := Lib.hid (fun j => show Lv (CS.new.scriptS sd (ls.take j)) by
   have hg : ∀ (l : List ByteArray) (y : CS), Lv y → Lv (y.scriptS sd l) := by
     intro l
     induction l with
     | nil => intro y hy; exact hy
     | cons s l ih => intro y hy; exact ih _ (CS.line_lv hy sd s)
   exact hg _ _ (show CS.new.level ≤ 4194305 from by decide))
 have HST := Lib.hid (fun j s (hv : ls[j]? = some s) => show CS.new.scriptS sd (ls.take (j + 1)) = ((CS.new.scriptS sd (ls.take j)).lineOp sd s).2.2 ∧ CS.scriptA sd (ls.take (j + 1)) CS.new = CS.scriptA sd (ls.take j) CS.new ++ [(CS.new.scriptS sd (ls.take j)).lineA sd s] by
   rw [List.take_add_one, hv]; exact ⟨CS.scriptS_snoc _ _ _ _, CS.scriptA_snoc _ _ _ _⟩)
 have HLA := Lib.hid (fun j (hj : j ≤ len) => show (CS.scriptA sd (ls.take j) CS.new).length = j by rw [CS.scriptA_len, List.length_take, Nat.min_eq_left (by omega)])
 have HLZ := Lib.hid hlz
 have d1 : decide ((100 : Int) < (len : Int)) = false := by simp; omega
 clear h R hls hlz
 go_enter Tryz.func8, Tryz.ntmps8
 go_wp2_with fail
 refine (chain_New A [1, 2, 3, 4, 5, 6, 7, 8, 9, 10] sd _ HL.out.sents.errs m2 m4 m5 m6 m7 m8).mono ?_
 rintro e w1 ⟨cb, K, rfl, g1⟩
 have hcn := g1.cn
 obtain ⟨wp, hwp⟩ : ∃ wp, w1.alloc (.cells #[.pointer (some ⟨cb, 0, none⟩)] 77) = wp := ⟨_, rfl⟩
 have BP : Below w1.heap.size w1 wp := by rw [← hwp]; exact (Below.refl _ _).alloc (Nat.le_refl _) _
 have hp0 : wp.cell? ⟨w1.heap.size, 0, none⟩ = some (.pointer (some ⟨cb, 0, none⟩)) := by rw [← hwp]; unfold World.cell?; rw [heap_alloc_new]; simp
 have HP0 := Lib.hid (show SRun A w cb K 3 sd CS.new w1.heap.size (.slice none 0 0) [] wp from
   ⟨⟨hcn.next BP, HL.out, CS.new_inv, hs, hp0, fun hf => by have := hcn.ch.footlt _ hf; omega, by decide, by decide, by decide, by decide, by decide⟩, hcn.below.size, World.ownsRow_nil _ _ _ _, fun g hg => by cases hg⟩)
 clear g1 hcn BP hp0
 go_wp2_with fail
 generalize hpb : w1.heap.size = pb at *
 clear hpb
 go_loopg [22, 7] len (fun g i out wr => ∃ (j n' : Nat) (K' : ChL), g + j = len ∧ i = .int .i64 j ∧ SRun A w cb K' n' sd (CS.new.scriptS sd (ls.take j)) pb out (CS.scriptA sd (ls.take j) CS.new) wr ∧ n' ≤ 3 + 200 * j)
 case atStart => exact ⟨0, 3, K, rfl, rfl, HP0.out, by decide⟩
 case round =>
   clear HP0
   obtain ⟨j, n1, K1, hg, rfl, hP, hn⟩ := hrel
   have HG := Lib.hid hg; have HP := Lib.hid hP; have HN := Lib.hid hn; clear hg hP hn
   by_cases hlt : j < len
   · obtain ⟨s, hv⟩ : ∃ s, ls[j]? = some s := ⟨_, List.getElem?_eq_getElem (by have := HLZ.out; omega)⟩
     obtain ⟨b, off, rfl, hbl, hcs⟩ := (HR.out.below HP.out.ci.cn.below).cells j s hv
     have c0 := hcs 0 (by decide)
     simp only [strE, List.getElem?_cons_zero, Nat.add_zero, Nat.mul_one] at c0
     have HV := Lib.hid (HST.out j s hv)
     have HQJ := Lib.hid (HQ.out j (by omega))
     have HQN := Lib.hid (HQ.out (j + 1) (by omega))
     have HLN := Lib.hid (HLV.out (j + 1))
     have hla := HLA.out j (by omega)
     have HPL := Lib.hid (scr_play A w cb K1 n1 sd _ pb wr s HP.out.ci (HLS.out s (List.mem_of_getElem? hv)))
     clear hv hcs
     rw [HV.out.1] at HQN HLN
     have hle := CS.line_le (CS.new.scriptS sd (ls.take j)) sd s
     have HLA1 := Lib.hid (show (CS.new.scriptS sd (ls.take j)).lineA sd s = if ((CS.new.scriptS sd (ls.take j)).lineOp sd s).2.1 = 0 then ((CS.new.scriptS sd (ls.take j)).lineOp sd s).1 else errB ((CS.new.scriptS sd (ls.take j)).lineOp sd s).2.1 from rfl)
     generalize (CS.new.scriptS sd (ls.take j)).lineA sd s = la at *
     generalize (CS.new.scriptS sd (ls.take j)).lineOp sd s = r at *
     generalize CS.new.scriptS sd (ls.take j) = y at *
     generalize CS.scriptA sd (ls.take j) CS.new = ans at *
     obtain ⟨rs, rc, rx⟩ := r
     simp only at hle HLA1 HV HQN HLN
     unfold Done at HPL
     simp only at HPL
     have hyw := HQJ.out.w
     have hnb := HN.out
     have HA := Lib.hid hla; clear hla
     have HSTP := Lib.hid (fun w2 (hl2 : Left wr (K1.foot cb) cb sd (n1 + 6 + y.s.W.length) rx w2) => HP.out.step hl2 (by omega) HQN.out (by omega) HLN.out)
     have HNB := Lib.hid (show ∀ q, q ≤ n1 + 6 + y.s.W.length → q ≤ 3 + 200 * (j + 1) from fun q hq => by omega)
     clear hyw hnb
     by_cases hc : rc = 0
     · subst hc
       rw [if_pos rfl] at HLA1
       rw [ev_nil] at HPL
       go_wp2_with fail
       refine HPL.out.mono ?_
       rintro e w2 ⟨rfl, hl2⟩
       obtain ⟨K2, n2, hn2, hP2⟩ := HSTP.out _ hl2
       have HP2 := Lib.hid hP2; have HN2 := Lib.hid hn2; clear hP2 hn2 hl2
       go_wp2_with (at_builtin; refine wpList_append_lies _ rfl (.tmp 37) (.tmp 39) 25 rfl w.heap.size 9 i0 (.string ⟨#[]⟩) 1 16 Tryz.underlying25 hi hz0 hz1 hz2 rfl (by decide) u7 ans.length (ans.map Value.string) rfl (HP2.out.own.alloc _) ⟨_, 0, none⟩ 1 1 [.string rs] rfl rfl (cell_one_at _ _ _ _ (by simp)) (by intro u hu; simp at hu; subst hu; rfl) (by decide) (by have := HA.out; unfold maxLen; omega) (by have := HA.out; omega) (by have := HP2.out.ci.cn.below.size; simp; omega) _ rfl ?_)
       intro g cp w4 ho2 hg2 hor hgl
       have HP4 := Lib.hid (HP2.out.append (s := rs) hg2 (by simpa using hor) ho2)
       clear ho2 hg2 hor hgl
       go_wp2_with fail
       have hg := HG.out
       go_roundg (len - (j + 1))
       case measure => omega
       case rel => exact ⟨j + 1, n2, K2, by omega, by go_num, by rw [HV.out.1, HV.out.2, HLA1.out]; exact HP4.out, HNB.out _ HN2.out⟩
     · rw [if_neg hc] at HLA1
       have hev := bare_out A hc
       have HBR := Lib.hid (fun wx (q : Lw A wx) => scr_bare A rc hc wx q)
       have HER := Lib.hid (fun wx (q : Lw A wx) => scr_Error A rc (by omega) hle wx q)
       have hmeth : ∀ (a : Addr) (wx : World), (method 444 288 (.pointer (some a)) "Error").run Tryz.prog wx = .ok (316, .pointer (some a)) wx := fun _ _ => by kernel_rfl
       rw [hev] at HPL HBR
       clear hev hc hle
       go_wp2_with fail
       refine HPL.out.mono ?_
       rintro e w2 ⟨rfl, hl2⟩
       obtain ⟨K2, n2, hn2, hP2⟩ := HSTP.out _ hl2
       have HP2 := Lib.hid hP2; have HN2 := Lib.hid hn2; clear hP2 hn2 hl2
       go_wp2_with fail
       refine (HBR.out _ HP2.out.ci.lib).mono ?_
       rintro e w3 ⟨rfl, b3⟩
       have HP3 := Lib.hid (HP2.out.next b3); clear b3
       go_wp2_with fail
       refine (HER.out _ HP3.out.ci.lib).mono ?_
       rintro e w5 ⟨rfl, rfl⟩
       go_wp2_with (at_builtin; refine wpList_append_lies _ rfl (.tmp 37) (.tmp 39) 25 rfl w.heap.size 9 i0 (.string ⟨#[]⟩) 1 16 Tryz.underlying25 hi hz0 hz1 hz2 rfl (by decide) u7 ans.length (ans.map Value.string) rfl (HP3.out.own.alloc _) ⟨_, 0, none⟩ 1 1 [.string (errB rc)] rfl rfl (cell_one_at _ _ _ _ (by simp)) (by intro u hu; simp at hu; subst hu; rfl) (by decide) (by have := HA.out; unfold maxLen; omega) (by have := HA.out; omega) (by have := HP3.out.ci.cn.below.size; simp; omega) _ rfl ?_)
       intro g cp w4 ho2 hg2 hor hgl
       have HP4 := Lib.hid (HP3.out.append (s := errB rc) hg2 (by simpa using hor) ho2)
       clear ho2 hg2 hor hgl
       go_wp2_with fail
       have hg := HG.out
       go_roundg (len - (j + 1))
       case measure => omega
       case rel => exact ⟨j + 1, n2, K2, by omega, by go_num, by rw [HV.out.1, HV.out.2, HLA1.out]; exact HP4.out, HNB.out _ HN2.out⟩
   · have hjl : j = len := by have := HG.out; omega
     subst hjl
     have hz := HLZ.out
     have hP := HP.out
     rw [List.take_of_length_le (by omega)] at hP
     have HF := Lib.hid hP
     have HLF := Lib.hid (show (CS.scriptA sd ls CS.new).length = j by rw [CS.scriptA_len]; exact hz)
     clear hP hz HP
     go_wp2_with fail
     go_ret2
     exact ⟨_, rfl, HF.out.ci.cn.below, by have := HF.out.own; rw [HLF.out] at this; exact this⟩
end Go.Proofs.YtajnfkmkombajaaGreatDoor
namespace Go.Proofs.YtajnfkmkombajaaGreatDoor
open Go.RowKit
theorem bstr_toList (s : ByteArray) : bstr s.data.toList = s := by simp [bstr]
theorem data_bstr (l : List UInt8) : (bstr l).data.toList = l := by simp [bstr]
theorem splitL_eq (l : List UInt8) : splitL (bstr l) = (splitSp l).map bstr := by
 have h := splitB_sp (bstr l)
 rw [data_bstr] at h
 have : ((splitL (bstr l)).map (·.data.toList)).map bstr = (splitSp l).map bstr := by
   rw [← h]; rfl
 rw [← this, List.map_map]
 conv => lhs; rw [← List.map_id (splitL (bstr l))]
 exact List.map_congr_left (fun x _ => (bstr_toList x).symm)
theorem itoaB_nat (u : Nat) : itoaB (u : Int) = bstr (Lib.decDigits u) := by
 unfold itoaB bstr Lib.itoa
 rw [if_neg (by omega)]
 rfl
theorem numOf_digits (u : Nat) (h : u ≤ 9999999) : numOf (bstr (Lib.decDigits u)) = some (u : Int) := by
 unfold numOf
 rw [data_bstr, atoiAll_digits u h]
 simp only
 rw [if_pos]
 refine ⟨?_, by omega, itoaB_nat u⟩
 have := digits_len_le u 7 (by omega) (by decide)
 simpa [bstr, ByteArray.size] using this
theorem lineOp_of (x : CS) (sd : Nat) {l w : List UInt8} {ns : List Nat} {i : Nat} (hl : splitSp l = w :: ns.map Lib.decDigits) (hw : cmdOf w = some i) (hf : readB (cmdForm i) (ns.map (fun u => bstr (Lib.decDigits u))) = some (ns.map (fun u : Nat => (u : Int)))) :
   x.lineOp sd (bstr l) = x.cmdOp sd i (ns.map (fun u : Nat => (u : Int))) := by
 unfold CS.lineOp
 rw [splitL_eq, hl]
 simp only [List.map_cons, List.headD_cons, List.drop_succ_cons, List.drop_zero, List.map_map, data_bstr, hw]
 have : List.map (bstr ∘ Lib.decDigits) ns = ns.map (fun u => bstr (Lib.decDigits u)) := rfl
 rw [this, hf]
theorem readZ_digits : ∀ (fs : List UInt8) (ns : List Nat), fs.length = ns.length → (∀ p ∈ fs.zip ns, p.2 ≤ 9999999 ∧ (p.1 = 100 → p.2 ≤ 9)) → readZ (fs.zip (ns.map (fun u => bstr (Lib.decDigits u)))) = some (ns.map (fun u : Nat => (u : Int)))
 | [], [], _, _ => rfl
 | [], _ :: _, h, _ => by cases h
 | _ :: _, [], h, _ => by cases h
 | f :: fs, u :: ns, h, hp => by
   have h1 := hp (f, u) (by simp)
   have ih := readZ_digits fs ns (by simpa using h) (fun p hq => hp p (by simp [hq]))
   show readZ ((f, bstr (Lib.decDigits u)) :: fs.zip (ns.map _)) = _
   unfold readZ
   have hf : formNum f (bstr (Lib.decDigits u)) = some (u : Int) := by
     unfold formNum
     rw [numOf_digits u h1.1]
     simp only
     rw [if_neg (fun e => by have := h1.2 e.1; omega)]
   rw [hf, ih]
   rfl
theorem readB_digits {fs : List UInt8} {ns : List Nat} (h : fs.length = ns.length) (hp : ∀ p ∈ fs.zip ns, p.2 ≤ 9999999 ∧ (p.1 = 100 → p.2 ≤ 9)) : readB fs (ns.map (fun u => bstr (Lib.decDigits u))) = some (ns.map (fun u : Nat => (u : Int))) := by
 unfold readB
 rw [if_pos (by simpa using h)]
 exact readZ_digits fs ns h hp
theorem dd_small (u : Nat) (h : u < 10) : Lib.decDigits u = [UInt8.ofNat (48 + u)] := by rw [Lib.decDigits, dif_pos h]
theorem dd_big (u : Nat) (h : ¬ u < 10) : Lib.decDigits u = Lib.decDigits (u / 10) ++ [UInt8.ofNat (48 + u % 10)] := by rw [Lib.decDigits, dif_neg h]
theorem dd500 : Lib.decDigits 500 = [53, 48, 48] := by
 rw [dd_big 500 (by decide), dd_big (500 / 10) (by decide), dd_small (500 / 10 / 10) (by decide)]; decide
theorem dd1500 : Lib.decDigits 1500 = [49, 53, 48, 48] := by
 rw [dd_big 1500 (by decide), dd_big (1500 / 10) (by decide), dd_big (1500 / 10 / 10) (by decide), dd_small (1500 / 10 / 10 / 10) (by decide)]; decide
theorem dd9500 : Lib.decDigits 9500 = [57, 53, 48, 48] := by
 rw [dd_big 9500 (by decide), dd_big (9500 / 10) (by decide), dd_big (9500 / 10 / 10) (by decide), dd_small (9500 / 10 / 10 / 10) (by decide)]; decide
theorem dd1 : Lib.decDigits 1 = [49] := by rw [dd_small 1 (by decide)]; decide
theorem dd4 : Lib.decDigits 4 = [52] := by rw [dd_small 4 (by decide)]; decide
theorem turn_zero {x : CS} (h : x.Inv) (hc : x.cycle ≤ 100) (hl : x.level ≤ 400) : x.turnC 0 = 0 := by
 unfold CS.turnC
 have := h.cy; have := h.lv
 rw [if_pos]
 exact ⟨⟨by omega, by omega⟩, ⟨by omega, by omega⟩, by decide, by decide⟩
theorem cycle_first {x : CS} (h : x.Inv) (sd : Nat) (hc : x.cycle = 0) (hl : x.level = 0) : (x.cycleOp sd).1 = 0 ∧ (x.cycleOp sd).2.cycle = 1 ∧ (x.cycleOp sd).2.level = 4 := by
 have e : x.left = 4 := by unfold CS.left; rw [hl]; rfl
 have step : ∀ (y : CS) (m : Nat), y.Inv → y.cycle = 0 → y.level ≤ 3 → CS.cycleN sd (m + 1) y = CS.cycleN sd m (y.btS sd 0) ∧ (y.btS sd 0).Inv ∧ (y.btS sd 0).level = y.level + 1 ∧ ((y.level + 1) % 4 = 0 → (y.btS sd 0).cycle = 1) ∧ ((y.level + 1) % 4 ≠ 0 → (y.btS sd 0).cycle = 0) := by
   intro y m hy hyc hyl
   have ht := turn_zero hy (by omega) (by omega)
   obtain ⟨b1, b2, b3⟩ := CS.bt_step hy sd ht
   refine ⟨?_, (CS.bt_keeps hy sd 0).1, b1, fun q => by rw [b2 q, hyc]; rfl, fun q => by rw [b3 q, hyc]⟩
   show (if y.turnC 0 ≠ 0 then _ else _) = _
   rw [if_neg (by simp [ht])]
 unfold CS.cycleOp
 rw [e]
 obtain ⟨a1, a2, a3, -, a5⟩ := step x 3 h hc (by omega)
 rw [a1]
 obtain ⟨b1, b2, b3, -, b5⟩ := step _ 2 a2 (a5 (by omega)) (by omega)
 rw [b1]
 obtain ⟨c1, c2, c3, -, c5⟩ := step _ 1 b2 (b5 (by omega)) (by omega)
 rw [c1]
 obtain ⟨d1, d2, d3, d4, -⟩ := step _ 0 c2 (c5 (by omega)) (by omega)
 rw [d1]
 exact ⟨rfl, d4 (by omega), by show (CS.btS _ sd 0).level = 4; omega⟩
def helloLines : List ByteArray := [⟨#[115, 116, 97, 107, 101, 32, 52, 32, 49, 32, 53, 48, 48]⟩, ⟨#[115, 116, 97, 107, 101, 100, 32, 49]⟩, ⟨#[104, 97, 115, 32, 52]⟩, ⟨#[99, 121, 99, 108, 101]⟩, ⟨#[97, 116]⟩]
def helloTold : List ByteArray := [⟨#[111, 107]⟩, ⟨#[49, 53, 48, 48]⟩, ⟨#[57, 53, 48, 48]⟩, ⟨#[111, 107]⟩, ⟨#[49, 32, 52]⟩]
theorem line1 (x : CS) (sd : Nat) : x.lineOp sd ⟨#[115, 116, 97, 107, 101, 32, 52, 32, 49, 32, 53, 48, 48]⟩ = x.cmdOp sd 1 [4, 1, 500] :=
 lineOp_of x sd (l := [115, 116, 97, 107, 101, 32, 52, 32, 49, 32, 53, 48, 48]) (w := [115, 116, 97, 107, 101]) (ns := [4, 1, 500]) (i := 1) (by rw [List.map_cons, List.map_cons, List.map_cons, dd4, dd1, dd500]; decide) (by decide) (readB_digits rfl (by decide))
theorem line2 (x : CS) (sd : Nat) : x.lineOp sd ⟨#[115, 116, 97, 107, 101, 100, 32, 49]⟩ = x.cmdOp sd 9 [1] :=
 lineOp_of x sd (l := [115, 116, 97, 107, 101, 100, 32, 49]) (w := [115, 116, 97, 107, 101, 100]) (ns := [1]) (i := 9) (by rw [List.map_cons, dd1]; decide) (by decide) (readB_digits rfl (by decide))
theorem line3 (x : CS) (sd : Nat) : x.lineOp sd ⟨#[104, 97, 115, 32, 52]⟩ = x.cmdOp sd 8 [4] :=
 lineOp_of x sd (l := [104, 97, 115, 32, 52]) (w := [104, 97, 115]) (ns := [4]) (i := 8) (by rw [List.map_cons, dd4]; decide) (by decide) (readB_digits rfl (by decide))
theorem line4 (x : CS) (sd : Nat) : x.lineOp sd ⟨#[99, 121, 99, 108, 101]⟩ = x.cmdOp sd 4 [] :=
 lineOp_of x sd (l := [99, 121, 99, 108, 101]) (w := [99, 121, 99, 108, 101]) (ns := []) (i := 4) (by decide) (by decide) (readB_digits rfl (by decide))
theorem line5 (x : CS) (sd : Nat) : x.lineOp sd ⟨#[97, 116]⟩ = x.cmdOp sd 14 [] :=
 lineOp_of x sd (l := [97, 116]) (w := [97, 116]) (ns := []) (i := 14) (by decide) (by decide) (readB_digits rfl (by decide))
theorem hello_facts : CS.scriptA 3 helloLines CS.new = helloTold := by
 have s1 : (CS.new.stakeOp 4 1 500).1 = 0 := by decide
 have s2 : (CS.new.stakeOp 4 1 500).2.s.staked 1 = 1500 := by decide
 have s3 : (if ownB 4 then (CS.new.stakeOp 4 1 500).2.p.at 4 else 0) = 9500 := by decide
 have s4 := (CS.stake_inv CS.new_inv 4 1 500).1
 obtain ⟨c1, c2, c3⟩ := cycle_first s4 3 (by decide) (by decide)
 unfold helloLines helloTold
 simp only [CS.scriptA, CS.lineA, line1, line2, line3, line4, line5]
 simp only [CS.cmdOp, List.getD_cons_zero, List.getD_cons_succ, s1, s2, s3, c1, c2, c3, if_true]
 rw [show (1500 : Int) = ((1500 : Nat) : Int) from rfl, show (9500 : Int) = ((9500 : Nat) : Int) from rfl, show (1 : Int) = ((1 : Nat) : Int) from rfl, show (4 : Int) = ((4 : Nat) : Int) from rfl, itoaB_nat, itoaB_nat, itoaB_nat, itoaB_nat, dd1500, dd9500, dd1, dd4]
 rfl
end Go.Proofs.YtajnfkmkombajaaGreatDoor
namespace Go.Proofs.YtajnfkmkombajaaGreatDoor
open Go Go.RowKit Go.Maps
theorem RdR.own_str {w : World} {base e : Nat} {v : Value} {n : Nat} {l : List ByteArray} (h : w.ownsRow base e 1 v n (l.map Value.string)) : ∃ ao cap, v = .slice ao n cap ∧ RdR strE 1 w ao n cap l := by
 obtain ⟨h1, h2⟩ := h
 have hl : l.length = n := by simpa using h1
 rcases h2 with ⟨hv, hn⟩ | ⟨g, cap', cur, hv, hg, hh, hnc, hcm, hcs, ht⟩
 · subst hn
   have hl0 : l = [] := List.eq_nil_of_length_eq_zero hl
   subst hl0
   exact ⟨none, 0, hv, RdR.nil _ _ _⟩
 · refine ⟨_, cap', hv, hl, hnc, hcm, fun h => (by cases h), fun i x hi => ⟨g, 0, rfl, lt_of_block hh, fun j hj => ?_⟩⟩
   obtain rfl : j = 0 := by omega
   have hi' : i < n := by
     rcases Nat.lt_or_ge i l.length with q | q
     · omega
     · rw [List.getElem?_eq_none q] at hi; cases hi
   have h3 : (cur.toList.take (n * 1))[i]? = some (.string x) := by rw [ht, List.getElem?_map, hi]; rfl
   rw [List.getElem?_take] at h3
   split at h3
   · simp only [World.cell?, hh, strE, List.getElem?_cons_zero]
     simpa using h3
   · cases h3
theorem RdR.take {α : Type} {enc : α → List Value} {C : Nat} {w : World} {ao : Option Addr} {len cap : Nat} {l : List α} (R : RdR enc C w ao len cap l) {k : Nat} (hk : k ≤ len) : RdR enc C w ao k cap (l.take k) :=
 ⟨by rw [List.length_take, R.size]; omega, Nat.le_trans hk R.lc, R.cm, R.nul, fun i x hi => R.cells i x (by
   rw [List.getElem?_take] at hi
   split at hi
   · exact hi
   · cases hi)⟩
set_option maxHeartbeats 400000 in
theorem ref_SameTexts (ax ay : Option Addr) (n cx cy : Nat) (xs : List ByteArray) (w : World) (RX : RdR strE 1 w ax n cx xs) (RY : RdR strE 1 w ay n cy xs) :
   Calls Tryz.prog 9 #[.slice ax n cx, .slice ay n cy] w fun e w' => e = .returned (.bool true) ∧ Dr w w' := by
 have hm : n ≤ 9223372036854775807 := by have := RX.lc; have := RX.cm; unfold maxLen at *; omega
 have HX := Lib.hid RX; have HY := Lib.hid RY
 have hne : ((n : Int) != (n : Int)) = false := bne_self_eq_false _
 clear RX RY
 go_enter Tryz.func9, Tryz.ntmps9
 go_wp2_with fail
 go_loopw [5] (fun i wr => ∃ k : Nat, k ≤ n ∧ i = .int .i64 k ∧ Dr w wr) (fun i _ => n - (intOf i).toNat)
 case atStart => exact ⟨0, Nat.zero_le _, rfl, Dr.refl _⟩
 case round =>
   obtain ⟨k, hk, rfl, d, rfl⟩ := hrel
   by_cases hlt : k < n
   · obtain ⟨x, hx⟩ : ∃ x, xs[k]? = some x := ⟨_, List.getElem?_eq_getElem (by have := HX.out.size; omega)⟩
     obtain ⟨b, off, ha, hb, hc⟩ := HX.out.cells k x hx
     obtain ⟨b', off', ha', hb', hc'⟩ := HY.out.cells k x hx
     have c0 := hc 0 (by decide)
     have c1 := hc' 0 (by decide)
     simp only [strE, List.getElem?_cons_zero, Nat.add_zero, Nat.mul_one] at c0 c1
     have Ha := Lib.hid ha; have Ha' := Lib.hid ha'
     clear ha ha' hc hc' hx hb hb'
     have h1 := Ha.out; subst h1
     have h2 := Ha'.out; subst h2
     have hxx : (x != x) = false := by show (!(x == x)) = false; rw [(MapKept.bytes_beq x x).2 rfl]; rfl
     have i0 : (0 : Int) ≤ (k : Int) := by omega
     have i1 : (k : Int) < (n : Int) := by omega
     go_wp2_with fail
     go_quiet (fail)
     go_wp2_with fail
     go_roundw
     case rel => exact ⟨k + 1, by omega, by go_num, d + nq, by simp [World.drewN]⟩
     case measure => simp [intOf]; omega
   · go_wp2
     go_ret
     exact ⟨rfl, d, rfl⟩
set_option maxRecDepth 8000 in
set_option maxHeartbeats 1000000 in
theorem law_hello (A : Nat → Addr) (w : World) (h : Lw A w) : Calls Tryz.prog 4 #[] w fun e w' => e = .returned (.bool true) ∧ Below w.heap.size w w' := by
 have HL := Lib.hid h
 have HF := Lib.hid hello_facts
 have HS := Lib.hid (show ∀ s ∈ helloLines, s.size ≤ 100000 by decide)
 clear h
 go_enter Tryz.func4, Tryz.ntmps4
 go_wp2_with fail
 have B0 := Lib.hid (fun ob => (Below.refl w.heap.size w).alloc (Nat.le_refl _) ob)
 refine (scr_Run A 3 (by decide) _ 5 5 helloLines _ (HL.out.below (B0.out _)) (RdR.str_new w 9 helloLines (by decide)) HS.out (by decide)).mono ?_
 rintro e w1 ⟨v, rfl, b1, o1⟩
 obtain ⟨ao, cap, rfl, R1⟩ := RdR.own_str o1
 have HB := Lib.hid (btrans (B0.out _) b1)
 have HR := Lib.hid R1
 clear b1 o1 R1
 rw [ev_nil]
 go_wp2_with fail
 have B2 := Lib.hid (fun ob => HB.out.alloc HB.out.size ob)
 refine (ref_SameTexts ao _ 5 cap 5 helloTold _ ((HF.out ▸ HR.out).below ((Below.refl _ _).alloc (Nat.le_refl _) _)) (RdR.str_new w1 9 helloTold (by decide))).mono ?_
 rintro e w2 ⟨rfl, k, rfl⟩
 go_wp2_with fail
 go_ret
 exact ⟨rfl, (B2.out _).drewN k⟩
end Go.Proofs.YtajnfkmkombajaaGreatDoor
namespace Go.Proofs.YtajnfkmkombajaaGreatDoor
open Go Go.RowKit Go.Maps
def formT (c : Option Nat) : List UInt8 := match c with
 | some i => cmdForm i
 | none => []
set_option maxHeartbeats 1000000 in
theorem law_formOf (s : ByteArray) (w : World) : Calls Tryz.prog 17 #[.string s] w fun e w' => e = .returned (.tuple #[.string (bstr (formT (cmdOf s.data.toList))), .bool (cmdOf s.data.toList).isSome]) ∧ w = w' := by
 cases hc : cmdOf s.data.toList with
 | none =>
   have hn := cmdOf_none hc
   have n0 : (s.toList == [112, 97, 121]) = false := by rw [ByteArray.toList_eq, beq_eq_false_iff_ne]; exact hn 0 (by decide)
   have n1 : (s.toList == [115, 116, 97, 107, 101]) = false := by rw [ByteArray.toList_eq, beq_eq_false_iff_ne]; exact hn 1 (by decide)
   have n2 : (s.toList == [117, 110, 115, 116, 97, 107, 101]) = false := by rw [ByteArray.toList_eq, beq_eq_false_iff_ne]; exact hn 2 (by decide)
   have n3 : (s.toList == [97, 99, 99, 117, 115, 101]) = false := by rw [ByteArray.toList_eq, beq_eq_false_iff_ne]; exact hn 3 (by decide)
   have n4 : (s.toList == [99, 121, 99, 108, 101]) = false := by rw [ByteArray.toList_eq, beq_eq_false_iff_ne]; exact hn 4 (by decide)
   have n5 : (s.toList == [102, 114, 101, 101]) = false := by rw [ByteArray.toList_eq, beq_eq_false_iff_ne]; exact hn 5 (by decide)
   have n6 : (s.toList == [116, 117, 114, 110]) = false := by rw [ByteArray.toList_eq, beq_eq_false_iff_ne]; exact hn 6 (by decide)
   have n7 : (s.toList == [98, 97, 107, 101]) = false := by rw [ByteArray.toList_eq, beq_eq_false_iff_ne]; exact hn 7 (by decide)
   have n8 : (s.toList == [104, 97, 115]) = false := by rw [ByteArray.toList_eq, beq_eq_false_iff_ne]; exact hn 8 (by decide)
   have n9 : (s.toList == [115, 116, 97, 107, 101, 100]) = false := by rw [ByteArray.toList_eq, beq_eq_false_iff_ne]; exact hn 9 (by decide)
   have n10 : (s.toList == [118, 97, 108, 117, 101]) = false := by rw [ByteArray.toList_eq, beq_eq_false_iff_ne]; exact hn 10 (by decide)
   have n11 : (s.toList == [119, 97, 105, 116, 115]) = false := by rw [ByteArray.toList_eq, beq_eq_false_iff_ne]; exact hn 11 (by decide)
   have n12 : (s.toList == [115, 117, 112, 112, 108, 121]) = false := by rw [ByteArray.toList_eq, beq_eq_false_iff_ne]; exact hn 12 (by decide)
   have n13 : (s.toList == [98, 111, 110, 117, 115]) = false := by rw [ByteArray.toList_eq, beq_eq_false_iff_ne]; exact hn 13 (by decide)
   have n14 : (s.toList == [97, 116]) = false := by rw [ByteArray.toList_eq, beq_eq_false_iff_ne]; exact hn 14 (by decide)
   clear hn hc
   go_enter Tryz.func17, Tryz.ntmps17
   go_wp2_with fail
   go_ret2
   exact ⟨rfl, rfl⟩
 | some i =>
   obtain ⟨hi, hw⟩ := cmdOf_some hc
   have hs : s.toList = cmdWord i := by rw [ByteArray.toList_eq]; exact hw.symm
   clear hw hc
   have hz : i = 0 ∨ i = 1 ∨ i = 2 ∨ i = 3 ∨ i = 4 ∨ i = 5 ∨ i = 6 ∨ i = 7 ∨ i = 8 ∨ i = 9 ∨ i = 10 ∨ i = 11 ∨ i = 12 ∨ i = 13 ∨ i = 14 := by omega
   rcases hz with rfl | rfl | rfl | rfl | rfl | rfl | rfl | rfl | rfl | rfl | rfl | rfl | rfl | rfl | rfl
   · have h1 : s.toList = [112, 97, 121] := hs
     clear hs hi
     go_enter Tryz.func17, Tryz.ntmps17
     go_wp2_with fail
     go_ret2
     exact ⟨rfl, rfl⟩
   · have h1 : s.toList = [115, 116, 97, 107, 101] := hs
     clear hs hi
     go_enter Tryz.func17, Tryz.ntmps17
     go_wp2_with fail
     go_ret2
     exact ⟨rfl, rfl⟩
   · have h1 : s.toList = [117, 110, 115, 116, 97, 107, 101] := hs
     clear hs hi
     go_enter Tryz.func17, Tryz.ntmps17
     go_wp2_with fail
     go_ret2
     exact ⟨rfl, rfl⟩
   · have h1 : s.toList = [97, 99, 99, 117, 115, 101] := hs
     clear hs hi
     go_enter Tryz.func17, Tryz.ntmps17
     go_wp2_with fail
     go_ret2
     exact ⟨rfl, rfl⟩
   · have h1 : s.toList = [99, 121, 99, 108, 101] := hs
     clear hs hi
     go_enter Tryz.func17, Tryz.ntmps17
     go_wp2_with fail
     go_ret2
     exact ⟨rfl, rfl⟩
   · have h1 : s.toList = [102, 114, 101, 101] := hs
     clear hs hi
     go_enter Tryz.func17, Tryz.ntmps17
     go_wp2_with fail
     go_ret2
     exact ⟨rfl, rfl⟩
   · have h1 : s.toList = [116, 117, 114, 110] := hs
     clear hs hi
     go_enter Tryz.func17, Tryz.ntmps17
     go_wp2_with fail
     go_ret2
     exact ⟨rfl, rfl⟩
   · have h1 : s.toList = [98, 97, 107, 101] := hs
     clear hs hi
     go_enter Tryz.func17, Tryz.ntmps17
     go_wp2_with fail
     go_ret2
     exact ⟨rfl, rfl⟩
   · have h1 : s.toList = [104, 97, 115] := hs
     clear hs hi
     go_enter Tryz.func17, Tryz.ntmps17
     go_wp2_with fail
     go_ret2
     exact ⟨rfl, rfl⟩
   · have h1 : s.toList = [115, 116, 97, 107, 101, 100] := hs
     clear hs hi
     go_enter Tryz.func17, Tryz.ntmps17
     go_wp2_with fail
     go_ret2
     exact ⟨rfl, rfl⟩
   · have h1 : s.toList = [118, 97, 108, 117, 101] := hs
     clear hs hi
     go_enter Tryz.func17, Tryz.ntmps17
     go_wp2_with fail
     go_ret2
     exact ⟨rfl, rfl⟩
   · have h1 : s.toList = [119, 97, 105, 116, 115] := hs
     clear hs hi
     go_enter Tryz.func17, Tryz.ntmps17
     go_wp2_with fail
     go_ret2
     exact ⟨rfl, rfl⟩
   · have h1 : s.toList = [115, 117, 112, 112, 108, 121] := hs
     clear hs hi
     go_enter Tryz.func17, Tryz.ntmps17
     go_wp2_with fail
     go_ret2
     exact ⟨rfl, rfl⟩
   · have h1 : s.toList = [98, 111, 110, 117, 115] := hs
     clear hs hi
     go_enter Tryz.func17, Tryz.ntmps17
     go_wp2_with fail
     go_ret2
     exact ⟨rfl, rfl⟩
   · have h1 : s.toList = [97, 116] := hs
     clear hs hi
     go_enter Tryz.func17, Tryz.ntmps17
     go_wp2_with fail
     go_ret2
     exact ⟨rfl, rfl⟩
theorem str_index (fl : List UInt8) (hf : fl.length ≤ 100) (j : Nat) (c : UInt8) (hc : fl[j]? = some c) (wx : World) : (Instr.index 9 (.string (bstr fl)) (.int .i64 (j : Int))).run Tryz.prog wx = .ok (.int .u8 (c.toNat : Int)) wx := by
 have hj : j < fl.length := by
   rcases Nat.lt_or_ge j fl.length with q | q
   · exact q
   · rw [List.getElem?_eq_none q] at hc; cases hc
 have hsz : (bstr fl).size = fl.length := by simp [bstr, ByteArray.size]
 have hjs : j < (bstr fl).size := by omega
 rw [run_index_string _ _ _ _ _ Tryz.underlying9, dif_pos (by omega)]
 have : (bstr fl)[(j : Int).toNat]'(by simpa using hjs) = c := by
   rw [List.getElem?_eq_getElem hj] at hc
   simpa [bstr, ByteArray.getElem_eq_getElem_data] using hc
 rw [this]
theorem ref_Byte (u : Nat) (hu : u < 256) (w : World) : Calls Tryz.prog 63 #[.int .i64 u] w fun e w' => e = .returned (.string (bstr [UInt8.ofNat u])) ∧ Below w.heap.size w w' := by
 have hwr : IntKind.u8.wrap (u : Int) = (u : Int) := by simp [IntKind.wrap, IntKind.bits, IntKind.signed]; omega
 have hback : (convert 182 9 (.slice (some ⟨w.heap.size, 0, none⟩) 1 1)).run Tryz.prog (w.alloc (.cells #[.int .u8 (u : Int)] 5)) = .ok (.string (bstr [UInt8.ofNat u])) (w.alloc (.cells #[.int .u8 (u : Int)] 5)) := by
   refine run_convert_bytes_back _ 182 9 5 _ 1 [UInt8.ofNat u] Tryz.underlying182 Tryz.underlying5 Tryz.underlying9 (fun j hj => ?_)
   obtain rfl : j = 0 := by simp at hj; omega
   show World.cell? _ ⟨w.heap.size, 0, none⟩ = _
   unfold World.cell?
   rw [heap_alloc_new]
   simp [Nat.mod_eq_of_lt hu]
 have HB := Lib.hid (fun ob => (Below.refl w.heap.size w).alloc (Nat.le_refl _) ob)
 clear hu
 go_enter Tryz.func63, Tryz.ntmps63
 go_wp2_with fail
 go_ret
 exact ⟨rfl, HB.out _⟩
theorem bstr_size (l : List UInt8) : (bstr l).size = l.length := by simp [bstr, ByteArray.size]
theorem bstr_append (a b : List UInt8) : bstr a ++ bstr b = bstr (a ++ b) := by
 apply Go.WideShapes.bytes_inj
 simp [bstr]
theorem itoa_nonneg (z : Int) (h : 0 ≤ z) : itoaB z = bstr (Lib.decDigits z.toNat) := by
 unfold itoaB bstr Lib.itoa
 rw [if_neg (by omega)]
set_option maxHeartbeats 1000000 in
theorem ref_below : ∀ (m : Nat), m ≤ 9223372036854775807 → ∀ (z : Int), z = -(m : Int) → ∀ w : World, Calls Tryz.prog 38 #[.int .i64 z] w fun e w' => e = .returned (.string (bstr (Lib.decDigits m))) ∧ Below w.heap.size w w' := by
 intro m
 induction m using Nat.strongRecOn with
 | _ m ih =>
 intro hm z hz w
 by_cases h10 : m < 10
 · have d1 : decide (-10 < z) = true := decide_eq_true (by omega)
   obtain ⟨u, hu⟩ : ∃ u, u = 48 + m := ⟨_, rfl⟩
   have hw : IntKind.i64.wrap (48 - z) = (u : Int) := by rw [hz, hu]; simp [IntKind.wrap, IntKind.bits, IntKind.signed]; omega
   have hB := ref_Byte u (by omega) w
   rw [show bstr [UInt8.ofNat u] = bstr (Lib.decDigits m) by rw [Lib.decDigits, dif_pos h10, hu]] at hB
   have HB := Lib.hid hB
   clear hB hu h10 hz hm ih
   go_enter Tryz.func38, Tryz.ntmps38
   go_wp2_with fail
   refine HB.out.mono ?_
   rintro e w1 ⟨rfl, b1⟩
   go_wp2_with fail
   go_ret
   exact ⟨rfl, b1⟩
 · have d1 : decide (-10 < z) = false := decide_eq_false (by omega)
   obtain ⟨u, hu⟩ : ∃ u, u = 48 + m % 10 := ⟨_, rfl⟩
   obtain ⟨z1, hz1⟩ : ∃ z1 : Int, z1 = -((m / 10 : Nat) : Int) := ⟨_, rfl⟩
   obtain ⟨z2, hz2⟩ : ∃ z2 : Int, z2 = -((m % 10 : Nat) : Int) := ⟨_, rfl⟩
   have hq : z.tdiv 10 = z1 := by rw [hz, hz1, Int.neg_tdiv]; rfl
   have hr : z.tmod 10 = z2 := by rw [hz, hz2, Int.neg_tmod]; rfl
   have hw : IntKind.i64.wrap (48 - z2) = (u : Int) := by rw [hz2, hu]; simp [IntKind.wrap, IntKind.bits, IntKind.signed]; omega
   have hw1 : IntKind.i64.wrap z1 = z1 := by rw [hz1]; simp [IntKind.wrap, IntKind.bits, IntKind.signed]; omega
   have hw2 : IntKind.i64.wrap z2 = z2 := by rw [hz2]; simp [IntKind.wrap, IntKind.bits, IntKind.signed]; omega
   have HI := Lib.hid (ih (m / 10) (by omega) (by omega) z1 hz1)
   have HB := Lib.hid (ref_Byte u (by omega))
   have hap : bstr (Lib.decDigits (m / 10)) ++ bstr [UInt8.ofNat u] = bstr (Lib.decDigits m) := by
     rw [bstr_append, hu]
     conv => rhs; rw [Lib.decDigits, dif_neg h10]
   have hl : (Lib.decDigits (m / 10)).length ≤ 20 := digits_len_le _ 20 (by omega) (by decide)
   have hs1 := bstr_size (Lib.decDigits (m / 10))
   have hs2 := bstr_size [UInt8.ofNat u]
   have H2 := Lib.hid hap
   clear hap
   generalize bstr (Lib.decDigits (m / 10)) = b1 at *
   generalize bstr [UInt8.ofNat u] = b2 at *
   have hlen : ¬ (9223372036854775807 < b1.size + b2.size) := by rw [hs1, hs2]; simp; omega
   clear hu h10 hz hm ih hz1 hz2 hl hs1 hs2
   go_enter Tryz.func38, Tryz.ntmps38
   go_wp2_with fail
   refine (HI.out _).mono ?_
   rintro e w1 ⟨rfl, k1⟩
   go_wp2_with fail
   refine (HB.out _).mono ?_
   rintro e w2 ⟨rfl, k2⟩
   go_wp2_with fail
   go_ret
   exact ⟨by rw [H2.out]; rfl, btrans k1 k2⟩
theorem ref_Decimal (n : Int) (h0 : 0 ≤ n) (h1 : n ≤ 9223372036854775807) (w : World) : Calls Tryz.prog 18 #[.int .i64 n] w fun e w' => e = .returned (.string (itoaB n)) ∧ Below w.heap.size w w' := by
 obtain ⟨z, hz⟩ : ∃ z, z = -n := ⟨_, rfl⟩
 have hw : IntKind.i64.wrap (-n) = z := by rw [hz]; simp [IntKind.wrap, IntKind.bits, IntKind.signed]; omega
 have d0 : decide (n < 0) = false := decide_eq_false (by omega)
 have hB := ref_below n.toNat (by omega) z (by omega) w
 rw [← itoa_nonneg n h0] at hB
 have HB := Lib.hid hB
 clear hB hz h0 h1
 go_enter Tryz.func18, Tryz.ntmps18
 go_wp2_with fail
 refine HB.out.mono ?_
 rintro e w1 ⟨rfl, b1⟩
 go_wp2_with fail
 go_ret
 exact ⟨rfl, b1⟩
end Go.Proofs.YtajnfkmkombajaaGreatDoor
