/-
  Scripts: the numbers of a line, read by a form.
  Plain: a line cut at its spaces. No program in sight.
  Scripts: a line's pieces; what lies at its word.
  Scripts: a line is played.
-/
import Derived.Test.YtajnfkmkombajaaGreatDoorQSP02
import Derived.Test.YtajnfkmkombajaaGreatDoorQSP17
import Derived.Test.YtajnfkmkombajaaGreatDoorQSP34
import Derived.Deep.AppendLies
import Derived.Deep.LoopGhost
import Derived.Lib.Split
import Derived.Lib.SplitLaws
import Derived.Deep.DeepCutAuto
import Derived.Deep.CutBlock
import Derived.Laws.EntriesVeiled
set_option linter.unusedVariables false
set_option linter.unusedSimpArgs false
set_option linter.unusedVariables false
namespace Go.Proofs.YtajnfkmkombajaaGreatDoor
open Go.RowKit Go.Maps
def strE (s : ByteArray) : List Value := [.string s]
theorem readZ_prefix : ∀ (l : List (UInt8 × ByteArray)) (k : Nat), readZ (l.take k) = none → readZ l = none
 | [], _, h => by simp [readZ] at h
 | y :: l, 0, h => by simp [readZ] at h
 | y :: l, k + 1, h => by
   rw [List.take_succ_cons] at h
   unfold readZ at h ⊢
   cases hy : formNum y.1 y.2 with
   | none => rfl
   | some v =>
     rw [hy] at h
     cases hl : readZ (l.take k) with
     | none => rw [readZ_prefix l k hl]
     | some r => rw [hl] at h; cases h
def ReadPost (w : World) (r : Option (List Int)) (e : Ending) (w' : World) : Prop :=
 ∃ v, e = .returned (.tuple #[v, .bool r.isSome]) ∧ Below w.heap.size w w' ∧ ∀ ns, r = some ns → w'.ownsRow w.heap.size 3 1 v ns.length (ns.map (Value.int .i64))
set_option maxRecDepth 8000 in
set_option maxHeartbeats 1000000 in
theorem scr_read (A : Nat → Addr) (fl : List UInt8) (form : ByteArray) (hform : form = bstr fl) (hf8 : fl.length ≤ 8) (ao : Option Addr) (len cap : Nat) (ws : List ByteArray) (w : World) (R : RdR strE 1 w ao len cap ws) (hws : ∀ s ∈ ws, s.size ≤ 1000000) (hl : len ≤ 1000000) (h : Lw A w) :
   Calls Tryz.prog 58 #[.string form, .slice ao len cap] w (ReadPost w (readB fl ws)) := by
 obtain ⟨i0, hi, hz0, hz1, hz2⟩ := info_parts Tryz.infoInt
 have hsz : form.size = fl.length := by rw [hform]; simp [bstr, ByteArray.size]
 have hlw := R.size
 by_cases hlen : fl.length = ws.length
 case neg =>
   have hr : readB fl ws = none := if_neg hlen
   have ne : ((form.size : Int) != (len : Int)) = true := by rw [hsz, ← hlw]; simp; omega
   rw [hr]
   clear hr hlen hsz hlw hform R hws h
   go_enter Tryz.func58, Tryz.ntmps58
   go_wp2_with fail
   go_ret2
   exact ⟨_, rfl, Below.refl _ _, fun ns e => by cases e⟩
 case pos =>
 have hr : readB fl ws = readZ (fl.zip ws) := if_pos hlen
 have ne : ((form.size : Int) != (len : Int)) = false := by rw [hsz, ← hlw, hlen]; simp
 rw [hr]
 have HR := Lib.hid R
 have HL := Lib.hid h
 have HWS := Lib.hid hws
 have HZ := Lib.hid (show (fl.zip ws).length = len by rw [List.length_zip, hlen, Nat.min_self, hlw])
 have HFL := Lib.hid (show fl.length = len by rw [hlen, hlw])
 have hl8 : len ≤ 8 := by omega
 have HIX := Lib.hid (fun (j : Nat) (c : UInt8) (hc : fl[j]? = some c) => show ∀ wx, (Instr.index 9 (.string form) (.int .i64 (j : Int))).run Tryz.prog wx = .ok (.int .u8 (c.toNat : Int)) wx from fun wx => by
   have hj : j < fl.length := by
     rcases Nat.lt_or_ge j fl.length with q | q
     · exact q
     · rw [List.getElem?_eq_none q] at hc; cases hc
   have hjs : j < form.size := by omega
   rw [run_index_string _ _ _ _ _ Tryz.underlying9, dif_pos (by omega)]
   have : form[(j : Int).toNat]'(by simpa using hjs) = c := by
     subst hform
     rw [List.getElem?_eq_getElem hj] at hc
     simpa [bstr, ByteArray.getElem_eq_getElem_data] using hc
   rw [this])
 clear hr hlen R h hws hsz hlw hform
 go_enter Tryz.func58, Tryz.ntmps58
 go_wp2_with fail
 go_loopg [17, 4] len (fun g i out wr => ∃ (j : Nat) (r : List Int), g + j = len ∧ i = .int .i64 j ∧ readZ ((fl.zip ws).take j) = some r ∧ r.length = j ∧ wr.ownsRow w.heap.size 3 1 out j (r.map (Value.int .i64)) ∧ Below w.heap.size w wr)
 case atStart => exact ⟨0, [], rfl, rfl, rfl, rfl, World.ownsRow_nil _ _ _ _, Below.refl _ _⟩
 case round =>
   obtain ⟨j, r, hg, rfl, hz, hrl, ho, hb⟩ := hrel
   have HG := Lib.hid hg; have HZR := Lib.hid hz; have HRL := Lib.hid hrl; have HO := Lib.hid ho; have HB := Lib.hid hb
   clear hg hz hrl ho hb
   by_cases hlt : j < len
   · obtain ⟨s, hs⟩ : ∃ s, ws[j]? = some s := ⟨_, List.getElem?_eq_getElem (by rw [HR.out.size]; exact hlt)⟩
     obtain ⟨c, hc⟩ : ∃ c, fl[j]? = some c := ⟨_, List.getElem?_eq_getElem (by have := HFL.out; omega)⟩
     obtain ⟨b, off, rfl, hbl, hcs⟩ := (HR.out.below HB.out).cells j s hs
     have c0 := hcs 0 (by decide)
     simp only [strE, List.getElem?_cons_zero, Nat.add_zero, Nat.mul_one] at c0
     have hidx := HIX.out j c hc
     have hzz : (fl.zip ws)[j]? = some (c, s) := by rw [List.getElem?_zip_eq_some]; exact ⟨hc, hs⟩
     have hst : readZ ((fl.zip ws).take (j + 1)) = match formNum c s with | some v => some (r ++ [v]) | none => none := by
       rw [List.take_add_one, hzz]
       show readZ ((fl.zip ws).take j ++ [(c, s)]) = _
       rw [readZ_snoc, HZR.out]
       cases formNum c s <;> rfl
     have HST := Lib.hid hst
     have HN := Lib.hid (scr_number A s (HWS.out s (List.mem_of_getElem? hs)) wr (HL.out.below HB.out))
     clear hst hzz hcs hs hc
     cases hnum : numOf s with
     | none =>
       have hnone : readZ (fl.zip ws) = none := readZ_prefix _ (j + 1) (by rw [HST.out]; unfold formNum; rw [hnum])
       rw [hnum] at HN
       have HNO := Lib.hid hnone
       clear hnone hidx hnum
       simp only [Option.isSome_none] at HN
       generalize numV s = nv at *
       go_wp2_with fail
       refine HN.out.mono ?_
       rintro e w2 ⟨rfl, b2⟩
       have HB2 := Lib.hid (btrans HB.out b2); clear b2
       go_wp2_with fail
       go_ret2
       exact ⟨_, by rw [HNO.out]; rfl, HB2.out, fun ns e => by rw [HNO.out] at e; cases e⟩
     | some v =>
       have hv : numV s = v := numOf_some hnum
       rw [hnum, hv] at HN
       simp only [Option.isSome_some] at HN
       have h100 : ((c.toNat : Int) == 100) = decide (c = 100) := by
         rw [Bool.eq_iff_iff]; simp only [beq_iff_eq, decide_eq_true_eq]
         constructor
         · intro e; exact UInt8.toNat_inj.1 (by rw [show c.toNat = 100 by omega]; rfl)
         · intro e; subst e; rfl
       generalize hci : (c.toNat : Int) = ci at *
       have hfn : formNum c s = if c = 100 ∧ 9 < v then none else some v := by unfold formNum; rw [hnum]
       rw [hfn] at HST
       clear hfn hnum hv hci
       by_cases hc1 : c = 100
       · rw [decide_eq_true hc1] at h100
         by_cases hv9 : 9 < v
         · have d9 : decide (9 < v) = true := decide_eq_true hv9
           have hnone : readZ (fl.zip ws) = none := readZ_prefix _ (j + 1) (by rw [HST.out, if_pos ⟨hc1, hv9⟩])
           have HNO := Lib.hid hnone
           clear hnone hc1 HST hv9
           go_wp2_with fail
           refine HN.out.mono ?_
           rintro e w2 ⟨rfl, b2⟩
           have HB2 := Lib.hid (btrans HB.out b2); clear b2
           go_wp2_with fail
           go_ret2
           exact ⟨_, by rw [HNO.out]; rfl, HB2.out, fun ns e => by rw [HNO.out] at e; cases e⟩
         · have d9 : decide (9 < v) = false := decide_eq_false hv9
           rw [if_neg (fun e => hv9 e.2)] at HST
           clear hc1 hv9
           go_wp2_with fail
           refine HN.out.mono ?_
           rintro e w2 ⟨rfl, b2⟩
           have HB2 := Lib.hid (btrans HB.out b2)
           have HO2 := Lib.hid (ownsRow_other HO.out (fun g hg => b2.block g (HO.out.lt g hg).2) (w' := w2))
           clear b2
           go_wp2_with (at_builtin; refine wpList_append_lies _ rfl (.tmp 39) (.tmp 41) 28 rfl w.heap.size 3 i0 (.int .i64 0) 1 8 Tryz.underlying28 hi hz0 hz1 hz2 rfl (by decide) u4 j (r.map (Value.int .i64)) rfl (HO2.out.alloc _) ⟨_, 0, none⟩ 1 1 [.int .i64 v] rfl rfl (cell_one_at _ _ _ _ (by simp)) (ints_oneCell _ [_]) (by decide) (by unfold maxLen; omega) (by omega) (by have := HB2.out.size; simp; omega) _ rfl ?_)
           intro g cp w4 ho2 hg2 hor hgl
           have HO4 := Lib.hid ho2
           have HB4 := Lib.hid ((HB2.out.alloc HB2.out.size _).grown hg2 (by have := HB2.out.size; simp; omega) (fun k hk => (HO2.out.lt k hk).1))
           clear ho2 hg2 hor hgl
           go_wp2_with fail
           have hg := HG.out
           go_roundg (len - (j + 1))
           case measure => omega
           case rel => exact ⟨j + 1, r ++ [v], by omega, by go_num, HST.out, by rw [List.length_append, HRL.out]; rfl, by rw [List.map_append]; exact HO4.out, HB4.out⟩
       · rw [decide_eq_false hc1] at h100
         rw [if_neg (fun e => hc1 e.1)] at HST
         clear hc1
         go_wp2_with fail
         refine HN.out.mono ?_
         rintro e w2 ⟨rfl, b2⟩
         have HB2 := Lib.hid (btrans HB.out b2)
         have HO2 := Lib.hid (ownsRow_other HO.out (fun g hg => b2.block g (HO.out.lt g hg).2) (w' := w2))
         clear b2
         go_wp2_with (at_builtin; refine wpList_append_lies _ rfl (.tmp 39) (.tmp 41) 28 rfl w.heap.size 3 i0 (.int .i64 0) 1 8 Tryz.underlying28 hi hz0 hz1 hz2 rfl (by decide) u4 j (r.map (Value.int .i64)) rfl (HO2.out.alloc _) ⟨_, 0, none⟩ 1 1 [.int .i64 v] rfl rfl (cell_one_at _ _ _ _ (by simp)) (ints_oneCell _ [_]) (by decide) (by unfold maxLen; omega) (by omega) (by have := HB2.out.size; simp; omega) _ rfl ?_)
         intro g cp w4 ho2 hg2 hor hgl
         have HO4 := Lib.hid ho2
         have HB4 := Lib.hid ((HB2.out.alloc HB2.out.size _).grown hg2 (by have := HB2.out.size; simp; omega) (fun k hk => (HO2.out.lt k hk).1))
         clear ho2 hg2 hor hgl
         go_wp2_with fail
         have hg := HG.out
         go_roundg (len - (j + 1))
         case measure => omega
         case rel => exact ⟨j + 1, r ++ [v], by omega, by go_num, HST.out, by rw [List.length_append, HRL.out]; rfl, by rw [List.map_append]; exact HO4.out, HB4.out⟩
   · have hjl : j = len := by have := HG.out; omega
     subst hjl
     have hz := HZR.out
     rw [List.take_of_length_le (by have := HZ.out; omega)] at hz
     have HZ2 := Lib.hid hz
     clear hz
     go_wp2_with fail
     go_ret2
     exact ⟨_, by rw [HZ2.out]; rfl, HB.out, fun ns e => by rw [HZ2.out] at e; cases e; have := HO.out; rw [HRL.out]; exact this⟩
end Go.Proofs.YtajnfkmkombajaaGreatDoor
namespace Go.Proofs.YtajnfkmkombajaaGreatDoor
open Go
def splitSp : List UInt8 → List (List UInt8)
 | [] => [[]]
 | b :: l => if b = 32 then [] :: splitSp l else match splitSp l with
   | h :: t => (b :: h) :: t
   | [] => [[b]]
theorem splitSp_ne (l : List UInt8) : splitSp l ≠ [] := by
 cases l with
 | nil => simp [splitSp]
 | cons b l =>
   unfold splitSp
   split
   · simp
   · split <;> simp
theorem index_cons_other (b : UInt8) (l : List UInt8) (h : b ≠ 32) : Lib.index (b :: l) [32] = if Lib.index l [32] == -1 then -1 else Lib.index l [32] + 1 := by
 conv => lhs; unfold Lib.index
 rw [if_neg]
 simp [List.isPrefixOf, Ne.symm h]
theorem splitK_sp : ∀ (l : List UInt8), Lib.splitK [32] 0 (Lib.count l [32]) l = splitSp l
 | [] => rfl
 | b :: l => by
   have ih := splitK_sp l
   by_cases hb : b = 32
   · subst hb
     rw [Lib.count_cons_eq, Nat.add_comm 1]
     have hi : Lib.index (32 :: l) [32] = 0 := by unfold Lib.index; rw [if_pos (by simp [List.isPrefixOf])]
     unfold Lib.splitK
     rw [hi]
     simp only [splitSp, if_true]
     rw [if_neg (by decide)]
     simp [ih]
   · rw [Lib.count_cons_ne b 32 l hb]
     unfold splitSp
     rw [if_neg hb, ← ih]
     have hic := index_cons_other b l hb
     rcases Lib.index_spec l [32] with ⟨h1, -⟩ | ⟨i, h1, h2, -, -⟩
     · rw [Lib.count_miss h1]
       simp [Lib.splitK]
     · rw [Lib.count_hit (by simp) h1, Nat.add_comm 1]
       have hn : ¬ ((i : Int) == -1) = true := by simp
       have hn2 : ¬ ((i : Int) + 1 == -1) = true := by
         intro e; have := eq_of_beq e; omega
       rw [h1, if_neg hn] at hic
       unfold Lib.splitK
       rw [h1, hic, if_neg hn, if_neg hn2]
       have e1 : ((i : Int) + 1).toNat = i + 1 := by omega
       have e2 : (i : Int).toNat = i := by omega
       rw [e1, e2]
       have e3 : i + 1 + 0 = (i + 0) + 1 := by omega
       rw [e3, List.take_succ_cons]
       have e4 : i + 1 + [(32 : UInt8)].length = (i + [(32 : UInt8)].length) + 1 := by simp
       rw [e4, List.drop_succ_cons]
       rfl
theorem splitB_sp (s : ByteArray) : (Lib.splitB ⟨#[32]⟩ 0 (Lib.countB s ⟨#[32]⟩) s).map (·.data.toList) = splitSp s.data.toList := by
 rw [Lib.splitB_data]; exact splitK_sp _
theorem splitSp_word : ∀ (w : List UInt8), (32 : UInt8) ∉ w → splitSp w = [w]
 | [], _ => rfl
 | b :: w, h => by
   have hb : b ≠ 32 := fun e => h (by rw [e]; simp)
   unfold splitSp
   rw [if_neg hb, splitSp_word w (fun e => h (List.mem_cons_of_mem _ e))]
theorem splitSp_more : ∀ (w r : List UInt8), (32 : UInt8) ∉ w → splitSp (w ++ 32 :: r) = w :: splitSp r
 | [], r, _ => by simp [splitSp]
 | b :: w, r, h => by
   have hb : b ≠ 32 := fun e => h (by rw [e]; simp)
   show splitSp (b :: (w ++ 32 :: r)) = _
   conv => lhs; unfold splitSp
   rw [if_neg hb, splitSp_more w r (fun e => h (List.mem_cons_of_mem _ e))]
def joinSp : List (List UInt8) → List UInt8
 | [] => []
 | [w] => w
 | w :: x :: l => w ++ 32 :: joinSp (x :: l)
theorem splitSp_join : ∀ (l : List (List UInt8)), l ≠ [] → (∀ w ∈ l, (32 : UInt8) ∉ w) → splitSp (joinSp l) = l
 | [], h, _ => absurd rfl h
 | [w], _, h => splitSp_word w (h w (by simp))
 | w :: x :: l, _, h => by
   show splitSp (w ++ 32 :: joinSp (x :: l)) = _
   rw [splitSp_more w _ (h w (by simp)), splitSp_join (x :: l) (by simp) (fun y hy => h y (List.mem_cons_of_mem _ hy))]
theorem joinSp_snoc : ∀ (l : List (List UInt8)) (w : List UInt8), l ≠ [] → joinSp (l ++ [w]) = joinSp l ++ 32 :: w
 | [], _, h => absurd rfl h
 | [x], w, _ => rfl
 | x :: y :: l, w, _ => by
   show x ++ 32 :: joinSp ((y :: l) ++ [w]) = (x ++ 32 :: joinSp (y :: l)) ++ 32 :: w
   rw [joinSp_snoc (y :: l) w (by simp)]
   simp
end Go.Proofs.YtajnfkmkombajaaGreatDoor
namespace Go.Proofs.YtajnfkmkombajaaGreatDoor
open Go Go.RowKit Go.Maps Go.ChangeMaps
set_option maxRecDepth 8000 in
theorem RdR.str_lo {w : World} {ao : Option Addr} {len cap : Nat} {l : List ByteArray} (R : RdR strE 1 w ao len cap l) (k : Nat) (hk : k ≤ len) (kl : IntKind) :
   ∃ a', (∀ wx : World, (Instr.slice 25 (.slice ao len cap) (some (.int kl k)) none none).run Tryz.prog wx = .ok (.slice a' (len - k) (cap - k)) wx) ∧ RdR strE 1 w a' (len - k) (cap - k) (l.drop k) ∧ ∀ a, a' = some a → ∀ b, ao = some b → a.block = b.block := by
 have hc := R.lc
 have hm := R.cm
 have hsz : ∀ wx : World, (sizeOf (Tryz.prog.elem 25)).run Tryz.prog wx = .ok 1 wx := fun wx => by kernel_rfl
 refine ⟨if cap = k then ao else ao.map (·.add (k * 1)), fun wx => ?_, ⟨by rw [List.length_drop, R.size], by omega, by omega, fun h => ?_, fun i x hi => ?_⟩, fun a ha b hb => ?_⟩
 · rw [run_slice_l wx 25 ao len cap Tryz.underlying25 kl k (by omega) (by omega), hsz]
   simp only [Result.andThen, sliced, Int.toNat_natCast]
 · split at h
   · have := R.nul h; omega
   · cases ao with
     | none => have := R.nul rfl; omega
     | some x => cases h
 · rw [List.getElem?_drop] at hi
   have hlt : k + i < l.length := by
     rcases Nat.lt_or_ge (k + i) l.length with q | q
     · exact q
     · rw [List.getElem?_eq_none q] at hi; cases hi
   have hsz := R.size
   obtain ⟨b, off, ha, hb, hcl⟩ := R.cells (k + i) x hi
   refine ⟨b, off + k, ?_, hb, fun j hj => ?_⟩
   · rw [if_neg (by omega), ha]
     simp only [Option.map_some, Nat.mul_one, Addr.add]
     split
     · simp_all
     · rfl
   · rw [← hcl j hj]; congr 2; omega
 · split at ha
   · rw [hb] at ha; cases ha; rfl
   · rw [hb] at ha
     simp only [Option.map_some, Option.some.injEq] at ha
     rw [← ha]
     unfold Addr.add; split <;> rfl
theorem RdR.str_new (w : World) (t : TypeId) (l : List ByteArray) (hm : l.length ≤ maxLen) : RdR strE 1 (w.alloc (.cells (l.map Value.string).toArray t)) (some ⟨w.heap.size, 0, none⟩) l.length l.length l :=
 ⟨rfl, Nat.le_refl _, hm, (fun h => by cases h), fun i x hi => ⟨w.heap.size, 0, rfl, by simp, fun j hj => by
   obtain rfl : j = 0 := by omega
   unfold World.cell?
   rw [heap_alloc_new]
   simp [strE, hi]⟩⟩
theorem split_len (s : ByteArray) : (splitL s).length = Lib.countB s spB + 1 := by
 unfold splitL
 exact Lib.splitB_all spB (by decide) 0 _ s rfl
theorem cmdOf_some {l : List UInt8} {i : Nat} (h : cmdOf l = some i) : i < 15 ∧ cmdWord i = l := by
 unfold cmdOf at h
 obtain ⟨hi, hp, -⟩ := List.findIdx?_eq_some_iff_getElem.1 h
 refine ⟨hi, ?_⟩
 unfold cmdWord
 rw [List.getD_eq_getElem?_getD, List.getElem?_eq_getElem hi]
 simpa using hp
theorem cmdOf_none {l : List UInt8} (h : cmdOf l = none) : ∀ j, j < 15 → l ≠ cmdWord j := by
 intro j hj e
 unfold cmdOf at h
 rw [List.findIdx?_eq_none_iff] at h
 have hj' : j < cmdWords.length := hj
 have := h (cmdWords[j]'hj') (List.getElem_mem hj')
 rw [beq_eq_false_iff_ne] at this
 apply this
 rw [e]; unfold cmdWord
 rw [List.getD_eq_getElem?_getD, List.getElem?_eq_getElem hj']; rfl
theorem bstr_data (k : ByteArray) : bstr k.data.toList = k := by simp [bstr]
theorem CmdsAt.hit {W w : World} {g i : Nat} {k : ByteArray} (h : CmdsAt W g 15 w) (hk : cmdOf k.data.toList = some i) :
   i < 15 ∧ ∃ fv, CmdFv w i fv ∧ ∀ w' : World, w'.heap[g]? = w.heap[g]? → (Instr.lookup 115 (.map (some g)) (.string k) true).run Tryz.prog w' = .ok (.tuple #[.agg #[.string (bstr (cmdForm i)), fv], .bool true]) w' := by
 obtain ⟨hi, hw⟩ := cmdOf_some hk
 obtain ⟨es, clock, h1, h2, h3, h4⟩ := h.map
 obtain ⟨v, a1, fv, a2, a3⟩ := h3 i hi
 rw [hw, bstr_data] at a1
 refine ⟨hi, fv, a3, fun w' hw' => ?_⟩
 have hz : (zeroValue 113).run Tryz.prog w' = .ok (.agg #[.string ⟨#[]⟩, .nilFunc]) w' := by kernel_rfl
 rw [run_lookup_str Tryz.underlying115 Tryz.underlying9 (hw'.trans h1) h2 hz k, a1, a2]
 rfl
theorem CmdsAt.miss {W w : World} {g : Nat} {k : ByteArray} (h : CmdsAt W g 15 w) (hk : cmdOf k.data.toList = none) :
   ∀ w' : World, w'.heap[g]? = w.heap[g]? → (Instr.lookup 115 (.map (some g)) (.string k) true).run Tryz.prog w' = .ok (.tuple #[.agg #[.string ⟨#[]⟩, .nilFunc], .bool false]) w' := by
 obtain ⟨es, clock, h1, h2, h3, h4⟩ := h.map
 have a1 := h4 k (fun j hj e => cmdOf_none hk j hj (by have := congrArg (fun x : ByteArray => x.data.toList) e; simpa [bstr] using this))
 intro w' hw'
 have hz : (zeroValue 113).run Tryz.prog w' = .ok (.agg #[.string ⟨#[]⟩, .nilFunc]) w' := by kernel_rfl
 rw [run_lookup_str Tryz.underlying115 Tryz.underlying9 (hw'.trans h1) h2 hz k, a1]
 rfl
end Go.Proofs.YtajnfkmkombajaaGreatDoor
namespace Go.Proofs.YtajnfkmkombajaaGreatDoor
open Go Go.RowKit Go.Maps Go.ChangeMaps
theorem Left.earlier {w0 w1 w2 : World} {F : Nat → Prop} {cb sd m : Nat} {y : CS} (g : Left w1 F cb sd m y w2) (b : Below w0.heap.size w0 w1) (hF : ∀ b, F b → b < w0.heap.size) : Left w0 F cb sd m y w2 := by
 obtain ⟨K', q, hq, g⟩ := g; exact ⟨K', q, hq, g.earlier b hF⟩
theorem split_le (s : ByteArray) : (splitL s).length ≤ s.size + 1 := by
 rw [split_len]; have := Lib.countB_le spB (by decide) _ s (Nat.le_refl _); omega
theorem splitSp_le : ∀ (l : List UInt8), ∀ p ∈ splitSp l, p.length ≤ l.length
 | [], p, h => by simp [splitSp] at h; simp [h]
 | b :: l, p, h => by
   have ih := splitSp_le l
   unfold splitSp at h
   split at h
   · rcases List.mem_cons.1 h with e | h
     · subst e; simp
     · have := ih p h; simp only [List.length_cons]; omega
   · cases hs : splitSp l with
     | nil => exact absurd hs (splitSp_ne l)
     | cons a t =>
       rw [hs] at h ih
       rcases List.mem_cons.1 h with e | h
       · subst e; have := ih a (by simp); simp only [List.length_cons]; omega
       · have := ih p (List.mem_cons_of_mem _ h); simp only [List.length_cons]; omega
theorem split_size {s p : ByteArray} (h : p ∈ splitL s) : p.size ≤ s.size := by
 have hm : p.data.toList ∈ splitSp s.data.toList := by
   rw [← splitB_sp]; exact List.mem_map_of_mem (f := fun x : ByteArray => x.data.toList) h
 have := splitSp_le _ _ hm
 simpa using this
theorem num_le {s : ByteArray} {v : Int} (h : numOf s = some v) : 0 ≤ v ∧ v ≤ 9999999 := by
 obtain ⟨h0, h7, hi, -⟩ := numOf_bd h
 refine ⟨h0, ?_⟩
 obtain ⟨u, rfl⟩ := Int.eq_ofNat_of_zero_le h0
 have hs : (Lib.decDigits u).length = s.size := by
   have hn : ¬ ((u : Int) < 0) := by omega
   rw [← hi]; simp [itoaB, Lib.itoa, hn, ByteArray.size]
 rw [Lib.decDigits_length] at hs
 have hlt := Lib.lt_pow_nDigits u
 have : 10 ^ Lib.nDigits u ≤ 10 ^ 7 := Nat.pow_le_pow_right (by decide) (by omega)
 have e7 : (10 : Nat) ^ 7 = 10000000 := by decide
 omega
theorem readZ_bd : ∀ (l : List (UInt8 × ByteArray)) (r : List Int), readZ l = some r → ∀ v ∈ r, 0 ≤ v ∧ v ≤ 9999999
 | [], r, h, v, hv => by cases h; cases hv
 | y :: l, r, h, v, hv => by
   unfold readZ at h
   cases hy : formNum y.1 y.2 with
   | none => rw [hy] at h; cases h
   | some u =>
     cases hl : readZ l with
     | none => rw [hy, hl] at h; cases h
     | some t =>
       rw [hy, hl] at h
       cases h
       rcases List.mem_cons.1 hv with e | hv
       · subst e
         unfold formNum at hy
         cases hn : numOf y.2 with
         | none => rw [hn] at hy; cases hy
         | some z =>
           rw [hn] at hy
           simp only at hy
           split at hy
           · cases hy
           · cases hy; exact num_le hn
       · exact readZ_bd l t hl v hv
theorem readB_facts {fl : List UInt8} {ws : List ByteArray} {ns : List Int} (h : readB fl ws = some ns) : ns.length = fl.length ∧ ∀ v ∈ ns, 0 ≤ v ∧ v ≤ 9999999 := by
 unfold readB at h
 split at h
 · next hl =>
   refine ⟨?_, readZ_bd _ _ h⟩
   rw [readZ_len _ _ h, List.length_zip, hl, Nat.min_self]
 · cases h
theorem cmdForm_le (i : Nat) : (cmdForm i).length ≤ 8 := by
 by_cases h : i < 15
 · exact (by decide : ∀ i, i < 15 → (cmdForm i).length ≤ 8) i h
 · unfold cmdForm
   rw [List.getD_eq_getElem?_getD, List.getElem?_eq_none (by show 15 ≤ i; omega)]; simp
structure FoundAt (w0 : World) (g7 : Nat) (u fv : Value) (w : World) : Prop where
 below : Below w0.heap.size w0 w
 row : RowAt g7 113 [u, fv] w
 new : w0.heap.size ≤ g7
theorem CmdFv.func {w : World} {j : Nat} {fv : Value} (h : CmdFv w j fv) : ∃ f caps, fv = .func (.func f) #[] caps := by
 unfold CmdFv at h
 split at h
 · obtain ⟨b, h1, h2⟩ := h; exact ⟨_, _, h1⟩
 · split at h
   · obtain ⟨b, h1, h2⟩ := h; exact ⟨_, _, h1⟩
   · split at h
     · obtain ⟨b, c, h1, h2, h3⟩ := h; exact ⟨_, _, h1⟩
     · exact ⟨_, _, h⟩
theorem scr_balloc {a w : World} (h : Below a.heap.size a w) (ob : Obj) : Below a.heap.size a (w.alloc ob) := h.alloc h.size ob
theorem CmdFv.below {w w' : World} {j : Nat} {fv : Value} (h : CmdFv w j fv) (k : Below w.heap.size w w') : CmdFv w' j fv := h.mono fun b v hv => by rw [k.cell (World.block_lt_of_cell? w _ hv)]; exact hv
theorem CmdFv.set {w : World} {j g i : Nat} {fv u : Value} (h : CmdFv w j fv) (hg : ∀ v, w.cell? ⟨g, 0, none⟩ = some v → ∀ f a b, v ≠ .func f a b) : CmdFv (w.setCell ⟨g, i, none⟩ u) j fv := by
 have hk : ∀ (b : Nat) f p q, w.cell? ⟨b, 0, none⟩ = some (.func f p q) → (w.setCell ⟨g, i, none⟩ u).cell? ⟨b, 0, none⟩ = some (.func f p q) := fun b f p q hv => by
   have hb : b ≠ g := fun e => by subst e; exact hg _ hv _ _ _ rfl
   rw [((Keep.refl (· = g) w).put (o := i) u).cell (p := ⟨b, 0, none⟩) (World.block_lt_of_cell? w _ hv) hb]; exact hv
 unfold CmdFv at h ⊢
 split at h
 · next hj => rw [if_pos hj]; obtain ⟨b, h1, h2⟩ := h; exact ⟨b, h1, hk _ _ _ _ h2⟩
 · next hj =>
   rw [if_neg hj]
   split at h
   · next hj => rw [if_pos hj]; obtain ⟨b, h1, h2⟩ := h; exact ⟨b, h1, hk _ _ _ _ h2⟩
   · next hj =>
     rw [if_neg hj]
     split at h
     · next hj => rw [if_pos hj]; obtain ⟨b, c, h1, h2, h3⟩ := h; exact ⟨b, c, h1, hk _ _ _ _ h2, hk _ _ _ _ h3⟩
     · next hj => rw [if_neg hj]; exact h
set_option maxRecDepth 8000 in
set_option maxHeartbeats 2000000 in
theorem scr_play (A : Nat → Addr) (W : World) (cb : Nat) (K : ChL) (n sd : Nat) (x : CS) (pb : Nat) (w : World) (line : ByteArray) (h : CmdIn A W cb K n sd x pb w) (hline : line.size ≤ 100000) :
   Calls Tryz.prog 32 #[.pointer (some ⟨pb, 0, none⟩), .string line] w (Done A w (K.foot cb) cb sd (n + 6 + x.s.W.length) (x.lineOp sd line)) := by
 have H := Lib.hid h
 obtain ⟨m, hm⟩ := h.lib.maxl
 have HSP := Lib.hid (Tryz.strings_Split line ⟨#[32]⟩ m w (by omega) hm (by decide))
 have HLN := Lib.hid (split_len line)
 have HE := Lib.hid (show Lib.splitB ⟨#[32]⟩ 0 (Lib.countB line ⟨#[32]⟩) line = splitL line from rfl)
 have HCE := Lib.hid (show Lib.countB line spB = Lib.countB line ⟨#[32]⟩ from rfl)
 rw [HCE.out] at HLN
 rw [HE.out] at HSP
 generalize hL : splitL line = L at *
 generalize Lib.countB line ⟨#[32]⟩ = cn at *
 have HLL := Lib.hid hL
 clear h hm hL HE HCE
 go_enter Tryz.func32, Tryz.ntmps32
 go_wp2_with fail
 refine HSP.out.mono ?_
 rintro e w1 ⟨rfl, rfl⟩
 have hm9 : L.length ≤ maxLen := by have := HLN.out; have := split_le line; rw [HLL.out] at this; unfold maxLen; omega
 have R1 := RdR.str_new w 9 L hm9
 obtain ⟨w1, hw1⟩ : ∃ w1, w.alloc (.cells (L.map Value.string).toArray 9) = w1 := ⟨_, rfl⟩
 rw [hw1, HLN.out] at R1
 have B1 : Below w.heap.size w w1 := by rw [← hw1]; exact (Below.refl _ _).alloc (Nat.le_refl _) _
 have HB1 := Lib.hid B1; have HR1 := Lib.hid R1
 obtain ⟨s0, hs0⟩ : ∃ s0, L[0]? = some s0 := ⟨_, List.getElem?_eq_getElem (by have := HLN.out; omega)⟩
 obtain ⟨b0, off0, e0, -, hc0⟩ := R1.cells 0 s0 hs0
 cases e0
 have c0 := hc0 0 (by decide)
 simp only [strE, List.getElem?_cons_zero, Nat.add_zero, Nat.mul_one] at c0
 have HC0 := Lib.hid (fun wx (q : Below w1.heap.size w1 wx) => show wx.cell? ⟨w.heap.size, 0, none⟩ = some (.string s0) from by rw [q.cell (World.block_lt_of_cell? w1 _ c0)]; exact c0)
 have HD1 := Lib.hid ((Below.refl w1.heap.size w1).drewN 1)
 have HH := Lib.hid (show L.headD ByteArray.empty = s0 by rw [← List.head?_eq_getElem?] at hs0; cases L with
   | nil => cases hs0
   | cons a l => simpa using hs0)
 have hw1l : w.heap.size < w1.heap.size := World.block_lt_of_cell? w1 _ c0
 clear hm9 R1 B1 hs0 hc0 c0
 cases hk : cmdOf s0.data.toList with
 | none =>
   have HMISS := Lib.hid (fun W' wx g (hc : CmdsAt W' g 15 wx) => hc.miss hk)
   have HLO := Lib.hid (show x.lineOp sd line = (ByteArray.empty, 1, x) by unfold CS.lineOp; rw [HLL.out, HH.out, hk])
   clear hk
   go_wp2_with fail
   go_upto_region 2 with fail
   go_cut [7, 8] (fun s7 s8 wx => s8 = .bool false ∧ Below w1.heap.size w1 wx)
   case first =>
     go_region_held3 (fun wx => wx.cell? ⟨w.heap.size, 0, none⟩ = some (.string s0)) (exact HC0.out _ (by repeat (first | exact HB2.out | exact HD1.out | exact Below.refl _ _ | apply Below.drewN | apply scr_balloc | (refine Below.setCell ?_ (by first | exact Nat.le_refl _ | exact HB2.out.size) _))))
       (first
         | (go_at_call 57; refine (scr_commands (w1.drewN 1)).mono ?_; rintro y w2 ⟨g, rfl, hc⟩; have HB2 := Lib.hid (btrans HD1.out hc.below); have lk := HMISS.out _ _ _ hc; have hgl := lt_of_block hc.map.choose_spec.choose_spec.1; have lk1 := lk w2 rfl; have lk2 := fun ob => lk (w2.alloc ob) ((MapKept.heap_alloc w2 ob).2 g hgl); clear lk hc)
         | (go_at_call 57; refine (scr_commands ((w1.drewN 1).alloc (.cells #[.string ⟨#[]⟩, .nilFunc] 113))).mono ?_; rintro y w2 ⟨g, rfl, hc⟩; have HB2 := Lib.hid (btrans (scr_balloc HD1.out _) hc.below); have lk := HMISS.out _ _ _ hc; have rr : RowAt w1.heap.size 113 [.string ⟨#[]⟩, .nilFunc] w2 := (RowAt.new (w1.drewN 1) 113 [.string ⟨#[]⟩, .nilFunc]).below hc.below (by simp); have q0 := rr.cell 0; have q1 := rr.cell 1; have r0 := rr.frozen 0; have r1 := rr.frozen 1; simp only [List.getElem?_cons_zero, List.getElem?_cons_succ] at q0 q1; have lk1 := lk w2 rfl; clear lk hc rr))
     all_goals go_wp2_with fail
     all_goals go_meet
     all_goals (case rel => first
       | exact ⟨rfl, scr_balloc HB2.out _⟩
       | exact ⟨rfl, (HB2.out.setCell (p := ⟨w1.heap.size, 0, none⟩) (Nat.le_refl _) _).setCell (p := ⟨w1.heap.size, 1, none⟩) (Nat.le_refl _) _⟩)
   case rest =>
     obtain ⟨rfl, hbc⟩ := hcut
     rename World => wc
     have HBC := Lib.hid (btrans HB1.out hbc); clear hbc
     have hgt := (H.out.next HBC.out).lib.sents.errs.cell 1 (by decide)
     have g1 : wc.cell? ⟨1, 0, none⟩ = some (ev A 1) := hgt
     clear hgt
     go_wp2_with fail
     go_quiet (fail)
     go_wp2_with fail
     go_ret2
     exact ⟨by rw [HLO.out]; rfl, by rw [HLO.out]; exact H.out.same (HBC.out.drewN _) (by omega)⟩
 | some i =>
   have HHIT := Lib.hid (fun W' wx g (hc : CmdsAt W' g 15 wx) => hc.hit hk)
   have HKK := Lib.hid hk; clear hk
   go_wp2_with fail
   go_upto_region 2 with fail
   go_cut [7, 8] (fun s7 s8 wx => ∃ (g7 : Nat) (f : Nat) (caps : Array Value), s7 = .pointer (some ⟨g7, 0, none⟩) ∧ s8 = .bool true ∧ FoundAt w1 g7 (.string (bstr (cmdForm i))) (.func (.func f) #[] caps) wx ∧ CmdFv wx i (.func (.func f) #[] caps) ∧ i < 15)
   case first =>
     go_region_held3 (fun wx => wx.cell? ⟨w.heap.size, 0, none⟩ = some (.string s0)) (exact HC0.out _ (by repeat (first | exact HB2.out | exact HD1.out | exact Below.refl _ _ | apply Below.drewN | apply scr_balloc | (refine Below.setCell ?_ (by first | exact Nat.le_refl _ | exact HB2.out.size) _))))
       (first
         | (go_at_call 57; refine (scr_commands (w1.drewN 1)).mono ?_; rintro y w2 ⟨g, rfl, hc⟩; have HB2 := Lib.hid (btrans HD1.out hc.below); obtain ⟨hi15, fv, hfv, lk⟩ := HHIT.out _ _ _ hc; obtain ⟨f, caps, rfl⟩ := hfv.func; have HFV := Lib.hid hfv; have hgl := lt_of_block hc.map.choose_spec.choose_spec.1; have lk1 := lk w2 rfl; have lk2 := fun ob => lk (w2.alloc ob) ((MapKept.heap_alloc w2 ob).2 g hgl); clear lk hfv hc)
         | (go_at_call 57; refine (scr_commands ((w1.drewN 1).alloc (.cells #[.string ⟨#[]⟩, .nilFunc] 113))).mono ?_; rintro y w2 ⟨g, rfl, hc⟩; have HB2 := Lib.hid (btrans (scr_balloc HD1.out _) hc.below); obtain ⟨hi15, fv, hfv, lk⟩ := HHIT.out _ _ _ hc; obtain ⟨f, caps, rfl⟩ := hfv.func; have HFV := Lib.hid hfv; have rr : RowAt w1.heap.size 113 [.string ⟨#[]⟩, .nilFunc] w2 := (RowAt.new (w1.drewN 1) 113 [.string ⟨#[]⟩, .nilFunc]).below hc.below (by simp); have q0 := rr.cell 0; have q1 := rr.cell 1; have r0 := rr.frozen 0; have r1 := rr.frozen 1; simp only [List.getElem?_cons_zero, List.getElem?_cons_succ] at q0 q1; have HRR := Lib.hid rr; have lk1 := lk w2 rfl; clear lk hfv hc rr))
     all_goals go_wp2_with fail
     all_goals go_meet
     all_goals (case rel => first
       | exact ⟨w2.heap.size, f, caps, rfl, rfl, ⟨scr_balloc HB2.out _, RowAt.new w2 _ _, HB2.out.size⟩, HFV.out.below ((Below.refl _ _).alloc (Nat.le_refl _) _), hi15⟩
       | exact ⟨w1.heap.size, f, caps, rfl, rfl, ⟨(HB2.out.setCell (p := ⟨w1.heap.size, 0, none⟩) (Nat.le_refl _) _).setCell (p := ⟨w1.heap.size, 1, none⟩) (Nat.le_refl _) _, (HRR.out.set 0 _).set 1 _, Nat.le_refl _⟩, (HFV.out.set (fun v hv _ _ _ e => by rw [q0] at hv; cases hv; cases e)).set (fun v hv _ _ _ e => by have := (HRR.out.set 0 (.string (bstr (cmdForm i)))).cell 0; simp only [List.set_cons_zero, List.getElem?_cons_zero] at this; rw [this] at hv; cases hv; cases e), hi15⟩)
   case rest =>
     obtain ⟨g7, f, caps, rfl, rfl, hF, hfv, hi15⟩ := hcut
     have HF := Lib.hid hF; have HFV := Lib.hid hfv
     have q0 := hF.row.cell 0; have q1 := hF.row.cell 1
     simp only [List.getElem?_cons_zero, List.getElem?_cons_succ] at q0 q1
     rename World => wc
     obtain ⟨a', hsl, RL, -⟩ := (HR1.out.below HF.out.below).str_lo 1 (by omega) .i64
     have hsl2 : ∀ wx : World, (Instr.slice 25 (.slice (some ⟨w.heap.size, 0, none⟩) (cn + 1) (cn + 1)) (some (.int .i64 1)) none none).run Tryz.prog wx = .ok (.slice a' cn cn) wx := hsl
     have HRL := Lib.hid (show RdR strE 1 wc a' cn cn (L.drop 1) from RL)
     have HWS := Lib.hid (fun s (hs : s ∈ L.drop 1) => show s.size ≤ 1000000 from by have := split_size (by rw [HLL.out]; exact List.mem_of_mem_drop hs : s ∈ splitL line); omega)
     have HBW := Lib.hid (btrans HB1.out HF.out.below)
     have hcl : cn ≤ 1000000 := by have := split_le line; rw [HLL.out, HLN.out] at this; omega
     have HRD := Lib.hid (fun wx (q : Below wc.heap.size wc wx) => scr_read A (cmdForm i) (bstr (cmdForm i)) rfl (cmdForm_le i) a' cn cn (L.drop 1) wx (HRL.out.below q) HWS.out hcl (H.out.lib.below (btrans HBW.out q)))
     obtain ⟨LT, hLT⟩ : ∃ LT, L.drop 1 = LT := ⟨_, rfl⟩
     rw [hLT] at HRL HWS HRD
     have HLT := Lib.hid hLT; clear hLT
     have HC7 := Lib.hid (fun wx (q : Below wc.heap.size wc wx) => show wx.cell? ⟨g7, 0, none⟩ = some (.string (bstr (cmdForm i))) from by rw [q.cell (World.block_lt_of_cell? wc _ q0)]; exact q0)
     have HBD := Lib.hid ((Below.refl wc.heap.size wc).drewN 1)
     clear hsl RL hF hfv hcl
     go_wp2_with fail
     go_region_held3 (fun wx => wx.cell? ⟨g7, 0, none⟩ = some (.string (bstr (cmdForm i)))) (first | exact HC7.out _ HB5.out | exact HC7.out _ HBD.out | exact HC7.out _ ((Below.refl wc.heap.size wc).drewN _))
       ((go_at_call 58; refine (HRD.out _ HBD.out).mono ?_; rintro y w5 ⟨v, rfl, hb5, ho5⟩; have HB5 := Lib.hid (btrans HBD.out hb5); have HO5 := Lib.hid ho5; clear hb5 ho5))
     all_goals
       have HX5 := Lib.hid (H.out.next (btrans HBW.out HB5.out))
       have hgt := HX5.out.lib.sents.errs.cell 1 (by decide)
       have g1 : w5.cell? ⟨1, 0, none⟩ = some (ev A 1) := hgt
       clear hgt
       cases hrd : readB (cmdForm i) LT with
       | none =>
         have HLO := Lib.hid (show x.lineOp sd line = (ByteArray.empty, 1, x) by unfold CS.lineOp; rw [HLL.out, HH.out, HKK.out]; simp only; rw [HLT.out, hrd])
         (try simp only [Option.isSome_none])
         go_wp2_with fail
         go_quiet (fail)
         go_wp2_with fail
         go_ret2
         exact ⟨by rw [HLO.out]; rfl, by rw [HLO.out]; exact H.out.same ((btrans HBW.out HB5.out).drewN _) (by omega)⟩
       | some ns =>
         have HLO := Lib.hid (show x.lineOp sd line = x.cmdOp sd i ns by unfold CS.lineOp; rw [HLL.out, HH.out, HKK.out]; simp only; rw [HLT.out, hrd])
         obtain ⟨hnl, hnb⟩ := readB_facts hrd
         have own := HO5.out ns hrd
         obtain ⟨oa, oc, rfl⟩ := own_shape own
         have hbf : ∀ a, oa = some a → ¬ K.foot cb a.block := fun a ha hf => by
           have h1 := (own.lt a.block (by rw [ha]; rfl)).1
           have h2 := H.out.cn.ch.footlt _ hf
           have h3 := (btrans HBW.out HBD.out).size
           omega
         have hdo := scr_does A W cb K n sd x pb w5 oa oc ns i hi15 _ HX5.out (HFV.out.below HB5.out) hnl (RdI.of_own own) hbf hnb
         have r5 := HF.out.row.below HB5.out HF.out.row.lt
         have q15 := r5.cell 1
         simp only [List.getElem?_cons_zero, List.getElem?_cons_succ] at q15
         have HEAR := Lib.hid (fun y w6 m (g : Left w5 (K.foot cb) cb sd m y w6) => g.earlier (btrans HBW.out HB5.out) H.out.cn.ch.footlt)
         (try simp only [Option.isSome_some])
         clear own hbf hnl hnb r5 hrd g1 q0 q1
         rcases hdo with ⟨f', h', e, ent, HC⟩ | ⟨f', e, ent, HC⟩
         · unfold closV at e
           cases e
           unfold Entered at ent
           have HCC := Lib.hid HC; clear HC
           go_wp2_with fail
           refine HCC.out.mono ?_
           rintro y w6 ⟨rfl, hl6⟩
           have HL6 := Lib.hid (HEAR.out _ _ _ hl6); clear hl6
           go_wp2_with fail
           go_ret2
           exact ⟨by rw [HLO.out]; rfl, by rw [HLO.out]; exact HL6.out⟩
         · unfold fnV at e
           cases e
           unfold Entered at ent
           have HCC := Lib.hid HC; clear HC
           go_wp2_with fail
           refine HCC.out.mono ?_
           rintro y w6 ⟨rfl, hl6⟩
           have HL6 := Lib.hid (HEAR.out _ _ _ hl6); clear hl6
           go_wp2_with fail
           go_ret2
           exact ⟨by rw [HLO.out]; rfl, by rw [HLO.out]; exact HL6.out⟩
end Go.Proofs.YtajnfkmkombajaaGreatDoor
