/-
  Contract of the document's NewDraw.
  Contract of the reference's BendFault.
-/
import Derived.Test.YtajnfkmkombajaaGreatDoorQSP16
import Derived.Test.YtajnfkmkombajaaGreatDoorQSP29
import Derived.Test.YtajnfkmkombajaaGreatDoorQSP17
import Derived.Test.YtajnfkmkombajaaGreatDoorQSP18
import Derived.Laws.Rows
import Derived.KernelRfl
set_option linter.unusedVariables false
set_option linter.unusedSimpArgs false
set_option linter.unusedVariables false
namespace Go.Proofs.YtajnfkmkombajaaGreatDoor
open Go.RowKit
def intVs (l : List Int) : List Value := l.map (Value.int .i64)
structure RF (W : World) (db lb ob rb : Nat) (n : Nat) (H : Int) (v8 v9 : Value) (S G : List Nat) (rest line other : List Int) (w : World) : Prop where
 below : Below W.heap.size W w
 d : RowAt db 136 [.int .i64 H, .slice (some ⟨lb, 0, none⟩) n n, .slice (some ⟨ob, 0, none⟩) n n] w
 l : RowAt lb 3 (intVs line) w
 o : RowAt ob 3 (intVs other) w
 r : RowAt rb 3 (intVs rest) w
 s8 : OwnSl (rb + 1) 3 v8 (natVs S) w
 s9 : OwnSl (rb + 1) 3 v9 (natVs G) w
 dj : ∀ g, v8.ownBlock = some g → v9.ownBlock ≠ some g
 nd : W.heap.size ≤ db
 nl : W.heap.size ≤ lb
 no : W.heap.size ≤ ob
 dl : db ≠ lb
 dO : db ≠ ob
 lo : lb ≠ ob
 dr : db < rb
 lr : lb < rb
 orr : ob < rb
 ll : line.length = n
 ol : other.length = n
 rl : rest.length = n
section
variable {W w w' : World} {db lb ob rb n : Nat} {H : Int} {v8 v9 : Value} {S G : List Nat} {rest line other : List Int}
theorem RF.drewN (h : RF W db lb ob rb n H v8 v9 S G rest line other w) (k : Nat) : RF W db lb ob rb n H v8 v9 S G rest line other (w.drewN k) :=
 ⟨h.below.drewN k, h.d, h.l, h.o, h.r, h.s8.kept fun _ _ => rfl, h.s9.kept fun _ _ => rfl, h.dj, h.nd, h.nl, h.no, h.dl, h.dO, h.lo, h.dr, h.lr, h.orr, h.ll, h.ol, h.rl⟩
theorem RF.far (h : RF W db lb ob rb n H v8 v9 S G rest line other w) {g : Nat} (hg : v8.ownBlock = some g ∨ v9.ownBlock = some g) : rb < g ∧ g < w.heap.size := by
 rcases hg with hg | hg
 · have := h.s8.blk hg; omega
 · have := h.s9.blk hg; omega
theorem RF.own_ne (h : RF W db lb ob rb n H v8 v9 S G rest line other w) {b : Nat} (hb : b ≤ rb) : v8.ownBlock ≠ some b ∧ v9.ownBlock ≠ some b :=
 ⟨fun e => by have := h.far (.inl e); omega, fun e => by have := h.far (.inr e); omega⟩
theorem intVs_set (l : List Int) (k : Nat) (x : Int) : intVs (l.set k x) = (intVs l).set k (.int .i64 x) := by unfold intVs; rw [List.map_set]
theorem RF.setH (h : RF W db lb ob rb n H v8 v9 S G rest line other w) (x : Int) : RF W db lb ob rb n x v8 v9 S G rest line other (w.setCell ⟨db, 0, none⟩ (.int .i64 x)) := by
 obtain ⟨q1, q2⟩ := h.own_ne (Nat.le_of_lt h.dr)
 have hdr := h.dr
 exact ⟨h.below.setCell h.nd _, h.d.set 0 _, h.l.set_other (by simp only; exact h.dl) _, h.o.set_other (by simp only; exact h.dO) _, h.r.set_other (by simp only; omega) _, h.s8.setCell_other q1 _, h.s9.setCell_other q2 _, h.dj, h.nd, h.nl, h.no, h.dl, h.dO, h.lo, h.dr, h.lr, h.orr, h.ll, h.ol, h.rl⟩
theorem RF.setRest (h : RF W db lb ob rb n H v8 v9 S G rest line other w) (k : Nat) (x : Int) : RF W db lb ob rb n H v8 v9 S G (rest.set k x) line other (w.setCell ⟨rb, k, none⟩ (.int .i64 x)) := by
 obtain ⟨q1, q2⟩ := h.own_ne (Nat.le_refl rb)
 have hdr := h.dr; have hlr := h.lr; have hor := h.orr; have hnd := h.nd
 refine ⟨h.below.setCell (by simp only; omega) _, h.d.set_other (by simp only; omega) _, h.l.set_other (by simp only; omega) _, h.o.set_other (by simp only; omega) _, ?_, h.s8.setCell_other q1 _, h.s9.setCell_other q2 _, h.dj, h.nd, h.nl, h.no, h.dl, h.dO, h.lo, h.dr, h.lr, h.orr, h.ll, h.ol, by simpa using h.rl⟩
 rw [intVs_set]; exact h.r.set k _
theorem RF.setOther (h : RF W db lb ob rb n H v8 v9 S G rest line other w) (k : Nat) (x : Int) : RF W db lb ob rb n H v8 v9 S G rest line (other.set k x) (w.setCell ⟨ob, k, none⟩ (.int .i64 x)) := by
 obtain ⟨q1, q2⟩ := h.own_ne (Nat.le_of_lt h.orr)
 have hor := h.orr
 refine ⟨h.below.setCell h.no _, h.d.set_other (by simp only; exact fun e => h.dO e.symm) _, h.l.set_other (by simp only; exact fun e => h.lo e.symm) _, ?_, h.r.set_other (by simp only; omega) _, h.s8.setCell_other q1 _, h.s9.setCell_other q2 _, h.dj, h.nd, h.nl, h.no, h.dl, h.dO, h.lo, h.dr, h.lr, h.orr, h.ll, by simpa using h.ol, h.rl⟩
 rw [intVs_set]; exact h.o.set k _
theorem RF.setLine (h : RF W db lb ob rb n H v8 v9 S G rest line other w) (k : Nat) (x : Int) : RF W db lb ob rb n H v8 v9 S G rest (line.set k x) other (w.setCell ⟨lb, k, none⟩ (.int .i64 x)) := by
 obtain ⟨q1, q2⟩ := h.own_ne (Nat.le_of_lt h.lr)
 have hlr := h.lr
 refine ⟨h.below.setCell h.nl _, h.d.set_other (by simp only; exact fun e => h.dl e.symm) _, ?_, h.o.set_other (by simp only; exact h.lo) _, h.r.set_other (by simp only; omega) _, h.s8.setCell_other q1 _, h.s9.setCell_other q2 _, h.dj, h.nd, h.nl, h.no, h.dl, h.dO, h.lo, h.dr, h.lr, h.orr, by simpa using h.ll, h.ol, h.rl⟩
 rw [intVs_set]; exact h.l.set k _
theorem RF.alloc (h : RF W db lb ob rb n H v8 v9 S G rest line other w) (x : Obj) : RF W db lb ob rb n H v8 v9 S G rest line other (w.alloc x) :=
 ⟨h.below.alloc h.below.size _, h.d.alloc _, h.l.alloc _, h.o.alloc _, h.r.alloc _, h.s8.alloc _, h.s9.alloc _, h.dj, h.nd, h.nl, h.no, h.dl, h.dO, h.lo, h.dr, h.lr, h.orr, h.ll, h.ol, h.rl⟩
theorem RF.app8 (h : RF W db lb ob rb n H v8 v9 S G rest line other w) {v' : Value} {S' : List Nat} (hg : w.grownBy w' v8.ownBlock) (h8 : OwnSl (rb + 1) 3 v' (natVs S') w') (hw : v'.ownBlock = v8.ownBlock ∨ v'.ownBlock = some w.heap.size) :
   RF W db lb ob rb n H v' v9 S' G rest line other w' := by
 have ne : ∀ b, b ≤ rb → some b ≠ v8.ownBlock := fun b hb e => (h.own_ne hb).1 e.symm
 have hdr := h.dr; have hlr := h.lr; have hor := h.orr; have hnd := h.nd
 refine ⟨Below.grown h.below hg h.below.size (fun j hj => ?_), row_grown h.d hg (ne _ (by omega)), row_grown h.l hg (ne _ (by omega)), row_grown h.o hg (ne _ (by omega)), row_grown h.r hg (ne _ (Nat.le_refl _)), h8, h.s9.grown hg (fun g hg2 e => h.dj g e.symm hg2), fun g hg2 => ?_, h.nd, h.nl, h.no, h.dl, h.dO, h.lo, h.dr, h.lr, h.orr, h.ll, h.ol, h.rl⟩
 · have := h.far (.inl hj); omega
 · rcases hw with hw | hw
   · exact h.dj g (hw ▸ hg2)
   · intro e; rw [hw] at hg2; cases hg2; have := h.far (.inr e); omega
theorem RF.app9 (h : RF W db lb ob rb n H v8 v9 S G rest line other w) {v' : Value} {G' : List Nat} (hg : w.grownBy w' v9.ownBlock) (h9 : OwnSl (rb + 1) 3 v' (natVs G') w') (hw : v'.ownBlock = v9.ownBlock ∨ v'.ownBlock = some w.heap.size) :
   RF W db lb ob rb n H v8 v' S G' rest line other w' := by
 have ne : ∀ b, b ≤ rb → some b ≠ v9.ownBlock := fun b hb e => (h.own_ne hb).2 e.symm
 have hdr := h.dr; have hlr := h.lr; have hor := h.orr; have hnd := h.nd
 refine ⟨Below.grown h.below hg h.below.size (fun j hj => ?_), row_grown h.d hg (ne _ (by omega)), row_grown h.l hg (ne _ (by omega)), row_grown h.o hg (ne _ (by omega)), row_grown h.r hg (ne _ (Nat.le_refl _)), h.s8.grown hg (fun g hg2 e => h.dj g hg2 e.symm), h9, fun g hg2 => ?_, h.nd, h.nl, h.no, h.dl, h.dO, h.lo, h.dr, h.lr, h.orr, h.ll, h.ol, h.rl⟩
 · have := h.far (.inr hj); omega
 · rcases hw with hw | hw
   · rw [hw]; exact h.dj g hg2
   · intro e; rw [hw] at e; cases e; have := h.far (.inl hg2); omega
theorem RF.high (h : RF W db lb ob rb n H v8 v9 S G rest line other w) : w.cell? ⟨db, 0, none⟩ = some (.int .i64 H) := by rw [h.d.cell]; rfl
theorem RF.lcell (h : RF W db lb ob rb n H v8 v9 S G rest line other w) : w.cell? ⟨db, 1, none⟩ = some (.slice (some ⟨lb, 0, none⟩) n n) := by rw [h.d.cell]; rfl
theorem RF.ocell (h : RF W db lb ob rb n H v8 v9 S G rest line other w) : w.cell? ⟨db, 2, none⟩ = some (.slice (some ⟨ob, 0, none⟩) n n) := by rw [h.d.cell]; rfl
theorem intVs_get {l : List Int} {k : Nat} (hk : k < l.length) : (intVs l)[k]? = some (.int .i64 (l.getD k 0)) := by unfold intVs; rw [List.getElem?_map, List.getElem?_eq_getElem hk]; simp [hk]
theorem RF.rcell (h : RF W db lb ob rb n H v8 v9 S G rest line other w) {k : Nat} (hk : k < n) : w.cell? ⟨rb, k, none⟩ = some (.int .i64 (rest.getD k 0)) := by rw [h.r.cell]; exact intVs_get (by rw [h.rl]; exact hk)
theorem RF.lincell (h : RF W db lb ob rb n H v8 v9 S G rest line other w) {k : Nat} (hk : k < n) : w.cell? ⟨lb, k, none⟩ = some (.int .i64 (line.getD k 0)) := by rw [h.l.cell]; exact intVs_get (by rw [h.ll]; exact hk)
theorem RF.othcell (h : RF W db lb ob rb n H v8 v9 S G rest line other w) {k : Nat} (hk : k < n) : w.cell? ⟨ob, k, none⟩ = some (.int .i64 (other.getD k 0)) := by rw [h.o.cell]; exact intVs_get (by rw [h.ol]; exact hk)
theorem RF.rLt (h : RF W db lb ob rb n H v8 v9 S G rest line other w) : rb + 1 ≤ w.heap.size := h.r.lt
end
structure RDrawAt (db lb ob : Nat) (zs : List Int) (w : World) : Prop where
 d : RowAt db 136 [.int .i64 zs.sum, .slice (some ⟨lb, 0, none⟩) zs.length zs.length, .slice (some ⟨ob, 0, none⟩) zs.length zs.length] w
 l : RowAt lb 3 (intVs ((vose zs).map (·.1))) w
 o : RowAt ob 3 (intVs ((vose zs).map (·.2))) w
def weightsOk (zs : List Int) : Prop := 1 ≤ zs.length ∧ zs.length ≤ 64 ∧ (∀ x ∈ zs, 0 ≤ x ∧ x ≤ 1073741824) ∧ 1 ≤ zs.sum ∧ zs.sum ≤ 68719476736
def upTo (n k : Nat) (f : Nat → Int) : List Int := (List.range n).map fun i => if i < k then f i else 0
theorem upTo_length (n k : Nat) (f : Nat → Int) : (upTo n k f).length = n := by simp [upTo]
theorem upTo_zero (n : Nat) (f : Nat → Int) : upTo n 0 f = List.replicate n 0 := by
 unfold upTo; simp; rw [List.map_const']; simp
theorem upTo_set (n k : Nat) (f : Nat → Int) (hk : k < n) : (upTo n k f).set k (f k) = upTo n (k + 1) f := by
 apply list_ext_getD 0
 · simp [upTo]
 · intro j hj
   have hj' : j < n := by simpa [upTo] using hj
   by_cases e : k = j
   · subst e
     rw [getD_set_same _ _ _ _ (by rw [upTo_length]; exact hk)]
     simp [upTo, List.getD_eq_getElem?_getD, hj']
   · rw [getD_set_other _ _ _ _ _ e]
     simp only [upTo, List.getD_eq_getElem?_getD, List.getElem?_map, List.getElem?_range hj', Option.map_some, Option.getD_some]
     by_cases h1 : j < k
     · rw [if_pos h1, if_pos (by omega)]
     · rw [if_neg h1, if_neg (by omega)]
theorem upTo_all (n : Nat) (f : Nat → Int) : upTo n n f = (List.range n).map f := by
 unfold upTo; apply List.map_congr_left; intro i hi; rw [if_pos (List.mem_range.1 hi)]
theorem hlen1b (m : Nat) (h : m ≤ 128) : m + 1 ≤ maxLen := by unfold maxLen; omega
theorem hlen2b (m : Nat) (h : m ≤ 128) : (m + 1) * 8 ≤ 140737488355328 := by omega
theorem drop_cons_parts {l : List Nat} {a x : Nat} {xs : List Nat} (h : l.drop a = x :: xs) : a < l.length ∧ l[a]? = some x ∧ l.drop (a + 1) = xs := by
 have hl : a < l.length := by
   rcases Nat.lt_or_ge a l.length with h1 | h1
   · exact h1
   · rw [List.drop_eq_nil_of_le h1] at h; cases h
 rw [List.drop_eq_getElem_cons hl] at h
 injection h with h1 h2
 exact ⟨hl, by rw [List.getElem?_eq_getElem hl, h1], h2⟩
theorem drop_nil_parts {l : List Nat} {a : Nat} (h : l.drop a = []) : l.length ≤ a := by simpa using h
set_option maxRecDepth 8000 in
set_option maxHeartbeats 4000000 in
theorem ref_NewDraw (W : World) (ao : Option Addr) (cap : Nat) (zs : List Int) (R : RdI .i64 W ao zs.length cap zs) (hwf : (weightsOk zs)) :
   Calls Tryz.prog 68 #[.slice ao zs.length cap] W fun e w' => ∃ db lb ob, e = .returned (.pointer (some ⟨db, 0, none⟩)) ∧ Below W.heap.size W w' ∧ W.heap.size ≤ db ∧ W.heap.size ≤ lb ∧ W.heap.size ≤ ob ∧ RDrawAt db lb ob zs w' := by
 obtain ⟨h1, h64, hz, hs1, hs2⟩ := hwf
 obtain ⟨i0, hi, hz0, hz1, hz2⟩ := info_parts (show (Tryz.prog.info? 3).map (fun i => (i.zero, i.size, i.bytes)) = some (some (.int .i64 0), 1, 8) by kernel_rfl)
 have hmk := make_ints zs.length (by omega)
 obtain ⟨_, wb, off, ha, hwb, hcell⟩ := (R.split).resolve_left (by omega)
 subst ha
 have HR := Lib.hid R; clear R hcell
 have HZ := Lib.hid hz; clear hz
 have htk : ∀ k, k < zs.length → 0 ≤ (zs.take k).sum ∧ (zs.take k).sum ≤ 68719476736 := by
   intro k hk
   have h := sum_bds (zs := zs.take k) (fun x hx => HZ.out x (List.mem_of_mem_take hx))
   rw [List.length_take] at h
   omega
 have hts : ∀ k, k < zs.length → (zs.take (k + 1)).sum = (zs.take k).sum + zs.getD k 0 := by
   intro k hk
   rw [List.take_succ_eq_append_getElem hk, List.sum_append]
   simp [hk]
 have HT := Lib.hid htk; have HS := Lib.hid hts
 clear htk hts
 have hn0 : 0 ≤ (zs.length : Int) := by omega
 generalize hH : zs.sum = H at *
 have HH := Lib.hid hH; clear hH
 generalize hn : zs.length = n at *
 have HN := Lib.hid hn; clear hn
 go_enter Tryz.func68, Tryz.ntmps68
 go_upto_region 2 with fail
 go_cut [4] (fun s4 wx => ∃ db lb ob, s4 = .pointer (some ⟨db, 0, none⟩) ∧ Below W.heap.size W wx ∧ (W.heap.size ≤ db ∧ W.heap.size ≤ lb ∧ W.heap.size ≤ ob) ∧ (db ≠ lb ∧ db ≠ ob ∧ lb ≠ ob) ∧
   RowAt db 136 [.int .i64 0, .slice (some ⟨lb, 0, none⟩) n n, .slice (some ⟨ob, 0, none⟩) n n] wx ∧ RowAt lb 3 (zeroVs n) wx ∧ RowAt ob 3 (zeroVs n) wx)
 case first =>
   go_region
   all_goals go_wp2_with fail
   all_goals go_meet
   · refine ⟨W.heap.size + 1 + 1, W.heap.size, W.heap.size + 1, rfl, ?_, ⟨by omega, by omega, by omega⟩, ⟨by omega, by omega, by omega⟩, ?_, ?_, ?_⟩
     · exact ((((Below.refl _ _).alloc (Nat.le_refl _) _).alloc (by simp) _).alloc (by simp; omega) _).drew
     · have := RowAt.new ((W.alloc (.cells (zeroVs n).toArray 3)).alloc (.cells (zeroVs n).toArray 3)) 136 [.int .i64 0, .slice (some ⟨W.heap.size, 0, none⟩) n n, .slice (some ⟨W.heap.size + 1, 0, none⟩) n n]
       simp only [World.size_alloc] at this
       exact this.drewN 1
     · exact (((RowAt.new W 3 (zeroVs n)).alloc _).alloc _).drewN 1
     · have := RowAt.new (W.alloc (.cells (zeroVs n).toArray 3)) 3 (zeroVs n)
       simp only [World.size_alloc] at this
       exact (this.alloc (.cells #[.int .i64 0, .slice (some ⟨W.heap.size, 0, none⟩) n n, .slice (some ⟨W.heap.size + 1, 0, none⟩) n n] 136)).drewN 1
   · refine ⟨W.heap.size + 1 + 1, W.heap.size + 1, W.heap.size, rfl, ?_, ⟨by omega, by omega, by omega⟩, ⟨by omega, by omega, by omega⟩, ?_, ?_, ?_⟩
     · exact ((((Below.refl _ _).alloc (Nat.le_refl _) _).alloc (by simp) _).alloc (by simp; omega) _).drew
     · have := RowAt.new ((W.alloc (.cells (zeroVs n).toArray 3)).alloc (.cells (zeroVs n).toArray 3)) 136 [.int .i64 0, .slice (some ⟨W.heap.size + 1, 0, none⟩) n n, .slice (some ⟨W.heap.size, 0, none⟩) n n]
       simp only [World.size_alloc] at this
       exact this.drewN 1
     · have := RowAt.new (W.alloc (.cells (zeroVs n).toArray 3)) 3 (zeroVs n)
       simp only [World.size_alloc] at this
       exact (this.alloc (.cells #[.int .i64 0, .slice (some ⟨W.heap.size + 1, 0, none⟩) n n, .slice (some ⟨W.heap.size, 0, none⟩) n n] 136)).drewN 1
     · exact (((RowAt.new W 3 (zeroVs n)).alloc _).alloc _).drewN 1
 case rest =>
   obtain ⟨db, lb, ob, rfl, hbx, ⟨nd, nl, no⟩, ⟨dl, dO, lo⟩, rd, rl, ro⟩ := hcut
   have F0 : RF W db lb ob wc.heap.size n 0 (.slice none 0 0) (.slice none 0 0) [] [] (upTo n 0 fun k => zs.getD k 0 * (n : Int)) (List.replicate n 0) (upTo n 0 fun k => (k : Int)) (wc.alloc (.cells (zeroVs n).toArray 3)) := by
     refine ⟨hbx.alloc hbx.size _, rd.alloc _, ?_, ?_, ?_, OwnSl.nil _ _ _, OwnSl.nil _ _ _, fun g h => (by cases h), nd, nl, no, dl, dO, lo, rd.lt, rl.lt, ro.lt, by simp, by rw [upTo_length], by rw [upTo_length]⟩
     · exact rl.alloc _
     · rw [upTo_zero]; exact ro.alloc _
     · rw [upTo_zero]; exact RowAt.new wc 3 (zeroVs n)
   have HF := Lib.hid F0; clear F0 rd rl ro hbx
   go_wp2_with fail
   generalize hrb : wc.heap.size = rb at *
   clear hrb
   go_loopg [6] n (fun g i wr => ∃ k : Nat, g + k = n ∧ i = .int .i64 k ∧ RF W db lb ob rb n (zs.take k).sum (.slice none 0 0) (.slice none 0 0) [] [] (upTo n k fun k => zs.getD k 0 * (n : Int)) (List.replicate n 0) (upTo n k fun k => (k : Int)) wr)
   case atStart => exact ⟨0, rfl, rfl, HF.out⟩
   case round =>
     clear HF hmk
     obtain ⟨k, hg, rfl, F⟩ := hrel
     have hG := Lib.hid hg; clear hg
     have HF := Lib.hid F; clear F
     by_cases hlt : k < n
     · have hzk : zs.getD k 0 ∈ zs := by rw [List.getD_eq_getElem?_getD, List.getElem?_eq_getElem (by rw [HN.out]; exact hlt)]; exact List.getElem_mem _
       have hzb := HZ.out _ hzk
       obtain ⟨wb', off', ha, hcz⟩ := (HR.out.below HF.out.below).cells k hlt
       cases ha
       have ht := HT.out k hlt
       have hs := HS.out k hlt
       have hu1 := upTo_set n k (fun k => zs.getD k 0 * (n : Int)) hlt
       have hu2 := upTo_set n k (fun k => (k : Int)) hlt
       generalize hzz : zs.getD k 0 = z at *
       generalize (zs.take k).sum = t at *
       have Hs := Lib.hid hs; have Hu1 := Lib.hid hu1; have Hu2 := Lib.hid hu2; have Hzz := Lib.hid hzz
       clear hs hu1 hu2 hzk hzz
       have hm1 : z * (n : Int) ≤ 1073741824 * 64 := Int.mul_le_mul hzb.2 (by omega) (by omega) (by omega)
       have hm0 : 0 ≤ z * (n : Int) := Int.mul_nonneg hzb.1 (by omega)
       go_upto_region 7 with fail
       go_cut [] (fun wx => RF W db lb ob rb n (t + z) (.slice none 0 0) (.slice none 0 0) [] [] (upTo n k fun k => zs.getD k 0 * (n : Int)) (List.replicate n 0) (upTo n k fun k => (k : Int)) wx)
       case first =>
         have q1 := HF.out.high
         have q2 := HF.out.d.frozen 0
         have F2 := Lib.hid (HF.out.setH (t + z))
         clear HF
         go_region
         all_goals go_wp2_with fail
         all_goals go_meet
         all_goals (case rel => exact F2.out.drewN 1)
       case rest =>
         clear HF
         have HF := Lib.hid hcut; clear hcut
         obtain ⟨wb', off', ha, hcz⟩ := (HR.out.below HF.out.below).cells k hlt
         cases ha
         rw [Hzz.out] at hcz
         have fr := HF.out.r.frozen k
         have F1 := HF.out.setRest k (z * (n : Int))
         have c1 := HF.out.rcell hlt
         have c3 := F1.ocell
         have fo := F1.o.frozen k
         have c4 := F1.othcell hlt
         have F2 := F1.setOther k (k : Int)
         rw [Hu1.out, Hu2.out] at F2
         have HF2 := Lib.hid F2
         clear F1 F2 HF
         generalize (upTo n k fun k => zs.getD k 0 * (n : Int)).getD k 0 = old1 at *
         generalize (upTo n k fun k => (k : Int)).getD k 0 = old2 at *
         go_wp2_with fail
         have hg := hG.out
         go_roundg (n - (k + 1))
         case measure => omega
         case rel => exact ⟨k + 1, by omega, by go_num, by rw [Hs.out]; exact HF2.out⟩
     · have hg := hG.out
       obtain rfl : k = n := by omega
       clear hg hG
       have FZ := HF.out
       rw [show (zs.take k).sum = H by rw [← HN.out, List.take_length, HH.out]] at FZ
       have HS2 := Lib.hid FZ; clear FZ HF
       clear hlt
       go_wp2_with fail
       go_loopg [7] k (fun g i wr => ∃ j : Nat, g + j = k ∧ i = .int .i64 j ∧ RF W db lb ob rb k H (.slice none 0 0) (.slice none 0 0) [] [] (upTo k k fun i => zs.getD i 0 * (k : Int)) (upTo k j fun _ => H) (upTo k k fun i => (i : Int)) wr)
       case atStart => exact ⟨0, rfl, rfl, by rw [upTo_zero]; exact HS2.out⟩
       case round =>
         clear HS2
         obtain ⟨j, hg, rfl, F⟩ := hrel
         have hG := Lib.hid hg; clear hg
         have HF := Lib.hid F; clear F
         by_cases hlt : j < k
         · have hu1 := upTo_set k j (fun _ => H) hlt
           have Hu1 := Lib.hid hu1; clear hu1
           have q1 := HF.out.high
           have q2 := HF.out.lcell
           have q3 := HF.out.lincell hlt
           have q4 := HF.out.l.frozen j
           have F2 := HF.out.setLine j H
           rw [Hu1.out] at F2
           have HF2 := Lib.hid F2
           clear HF F2
           generalize (upTo k j fun _ => H).getD j 0 = old1 at *
           go_upto_region 13 with fail
           go_region
           all_goals go_wp2_with fail
           all_goals have hg := hG.out
           all_goals (go_roundg (k - (j + 1)))
           all_goals first | (case measure => omega) | (case rel => exact ⟨j + 1, by omega, by go_num, HF2.out.drewN 1⟩) | skip
           all_goals first | omega | exact ⟨j + 1, by omega, by go_num, HF2.out.drewN 1⟩
         · have hg := hG.out
           obtain rfl : j = k := by omega
           clear hg hG hlt
           have FZ := HF.out
           rw [show (upTo j j fun i => zs.getD i 0 * (j : Int)) = restW zs by
             rw [upTo_all]; unfold restW
             rw [← HN.out]
             apply list_ext_getD 0
             · simp
             · intro i hi
               have hi' : i < zs.length := by simpa using hi
               simp [List.getD_eq_getElem?_getD, hi']] at FZ
           have HS2 := Lib.hid FZ; clear FZ HF
           go_wp2_with fail
           rw [upTo_all, upTo_all] at HS2
           have E1 := VS.final_start zs
           rw [HH.out, HN.out] at E1
           have FZ := HS2.out
           rw [show ((List.range j).map fun _ => H) = ((VS.start zs).final H).map (·.1) by rw [E1, List.map_map]; rfl, show ((List.range j).map fun i : Nat => (i : Int)) = ((VS.start zs).final H).map (·.2) by rw [E1, List.map_map]; rfl] at FZ
           generalize hline : ((VS.start zs).final H).map (·.1) = line0 at FZ
           generalize hother : ((VS.start zs).final H).map (·.2) = other0 at FZ
           have HS3 := Lib.hid FZ; have HL0 := Lib.hid hline; have HO0 := Lib.hid hother
           clear FZ HS2 E1 hline hother
           go_loopg [10, 8, 9] j (fun g i v8 v9 wr => ∃ k : Nat, g + k = j ∧ i = .int .i64 k ∧ RF W db lb ob rb j H v8 v9 (smallTo zs k) (greatTo zs k) (restW zs) line0 other0 wr)
           case atStart => exact ⟨0, rfl, rfl, HS3.out⟩
           case round =>
             clear HS3
             obtain ⟨k, hg, rfl, F⟩ := hrel
             have hG := Lib.hid hg; clear hg
             have HF := Lib.hid F; clear F
             by_cases hlt : k < j
             · have hyes := smallTo_yes (w := zs) (k := k)
               have hno := smallTo_no (w := zs) (k := k)
               rw [← restW_getD, HH.out] at hyes hno
               have q1 := HF.out.high
               have q2 := HF.out.rcell hlt
               generalize hzz : (restW zs).getD k 0 = z at *
               have Hyes := Lib.hid hyes; have Hno := Lib.hid hno
               clear hyes hno hzz
               by_cases hs : z < H
               · obtain ⟨y1, y2⟩ := Hyes.out hs
                 have Y1 := Lib.hid y1; have Y2 := Lib.hid y2
                 clear y1 y2
                 go_wp2_with fail
                 go_quiet (fail)
                 have FA := Lib.hid ((HF.out.drewN nq).alloc (.cells #[.int .i64 (k : Int)] 3))
                 go_wp2_with (at_builtin; refine wpList_append_sl _ rfl (.tmp 87) (.tmp 89) 28 rfl (rb + 1) 3 i0 (.int .i64 0) 8 Tryz.underlying28 hi hz0 hz1 hz2 rfl u8 (natVs (smallTo zs k)) rfl FA.out.s8 ⟨_, 0, none⟩ (.int .i64 k) rfl (cell_one_at _ _ _ _ (by simp)) (ints_oneCell _ [_]) (hlen1 _ (by simp [natVs]; exact Nat.le_trans (smallTo_length zs k) (by omega))) (hlen2 _ (by simp [natVs]; exact Nat.le_trans (smallTo_length zs k) (by omega))) (by have := FA.out.rLt; simpa using this) ?_)
                 intro v' w2 h5 hg hw
                 have F2 := FA.out.app8 (v' := v') (w' := w2) (S' := smallTo zs k ++ [k]) hg (by rw [natVs_append]; exact h5) (by simpa using hw)
                 have HF2 := Lib.hid F2; clear F2 h5 hg hw
                 go_wp2_with fail
                 have hg := hG.out
                 go_roundg (j - (k + 1))
                 case measure => omega
                 case rel => exact ⟨k + 1, by omega, by go_num, by rw [Y1.out, Y2.out]; exact HF2.out⟩
               · obtain ⟨y1, y2⟩ := Hno.out hs
                 have Y1 := Lib.hid y1; have Y2 := Lib.hid y2
                 clear y1 y2
                 go_wp2_with fail
                 go_quiet (fail)
                 have FA := Lib.hid ((HF.out.drewN nq).alloc (.cells #[.int .i64 (k : Int)] 3))
                 go_wp2_with (at_builtin; refine wpList_append_sl _ rfl (.tmp 91) (.tmp 93) 28 rfl (rb + 1) 3 i0 (.int .i64 0) 8 Tryz.underlying28 hi hz0 hz1 hz2 rfl u9 (natVs (greatTo zs k)) rfl FA.out.s9 ⟨_, 0, none⟩ (.int .i64 k) rfl (cell_one_at _ _ _ _ (by simp)) (ints_oneCell _ [_]) (hlen1 _ (by simp [natVs]; exact Nat.le_trans (greatTo_length zs k) (by omega))) (hlen2 _ (by simp [natVs]; exact Nat.le_trans (greatTo_length zs k) (by omega))) (by have := FA.out.rLt; simpa using this) ?_)
                 intro v' w2 h5 hg hw
                 have F2 := FA.out.app9 (v' := v') (w' := w2) (G' := greatTo zs k ++ [k]) hg (by rw [natVs_append]; exact h5) (by simpa using hw)
                 have HF2 := Lib.hid F2; clear F2 h5 hg hw
                 go_wp2_with fail
                 have hg := hG.out
                 go_roundg (j - (k + 1))
                 case measure => omega
                 case rel => exact ⟨k + 1, by omega, by go_num, by rw [Y1.out, Y2.out]; exact HF2.out⟩
             · have hg := hG.out
               obtain rfl : k = j := by omega
               clear hg hG hlt
               have hgl : (greatTo zs k).length ≤ k := greatTo_length zs k
               have hsl : (smallTo zs k).length ≤ k := smallTo_length zs k
               have FZ := HF.out
               rw [← HL0.out, ← HO0.out] at FZ
               have HS := Lib.hid (show RF W db lb ob rb k H u8 u9 (smallTo zs k) (greatTo zs k) (VS.start zs).rest (((VS.start zs).final H).map (·.1)) (((VS.start zs).final H).map (·.2)) wr from FZ)
               have hs0 : (VS.start zs).small = smallTo zs k ∧ (VS.start zs).great = greatTo zs k := by rw [← HN.out]; exact ⟨rfl, rfl⟩
               have HS0 := Lib.hid hs0
               have I0 := Lib.hid (VS.start_inv zs (fun x hx => (HZ.out x hx).1))
               generalize greatTo zs k = G at *
               clear FZ HF HL0 HO0 hs0
               go_wp2_with fail
               go_loopg [11, 12, 8] k (fun g v11 v12 v8 w2 => ∃ (j f : Nat) (S : List Nat), g + j = k ∧ v11 = .int .i64 j ∧ v12 = .int .i64 f ∧ f ≤ j ∧ S.length ≤ k + j ∧ S.drop j = ((VS.start zs).run H j).small ∧ G.drop f = ((VS.start zs).run H j).great ∧ RF W db lb ob rb k H v8 u9 S G ((VS.start zs).run H j).rest ((((VS.start zs).run H j).final H).map (·.1)) ((((VS.start zs).run H j).final H).map (·.2)) w2)
               case atStart => exact ⟨0, 0, smallTo zs k, rfl, rfl, rfl, Nat.le_refl _, by omega, HS0.out.1.symm, HS0.out.2.symm, HS.out⟩
               case round =>
                 clear HS HS0
                 obtain ⟨j, f, S, hg, rfl, rfl, hfj, hSl, hS, hGd, F⟩ := hrel
                 have hG := Lib.hid hg; clear hg
                 have I := VS.run_inv I0.out j
                 rw [HH.out] at I
                 have HI := Lib.hid I; clear I
                 obtain ⟨st, hst⟩ : ∃ st, st = (VS.start zs).run H j := ⟨_, rfl⟩
                 rw [← hst] at F HI hS hGd
                 have HST := Lib.hid hst; clear hst
                 obtain ⟨ao8, cap8, hv8, _, _⟩ := F.s8.shape
                 obtain ⟨ao9, cap9, hv9, _, _⟩ := F.s9.shape
                 rw [show (natVs S).length = S.length by simp [natVs]] at hv8
                 rw [show (natVs G).length = G.length by simp [natVs]] at hv9
                 have HF := Lib.hid F
                 by_cases hend : st.small = [] ∨ st.great = []
                 · have hstay := VS.run_stays (v := VS.start zs) (H := H) (k := j) (by rw [← HST.out]; exact hend) (k - j)
                   rw [show j + (k - j) = k by have := hG.out; omega, ← HST.out] at hstay
                   have hv : vose zs = st.final H := by unfold vose voseV; rw [HH.out, HN.out, hstay]
                   have HV := Lib.hid hv
                   have hfin : RDrawAt db lb ob zs wr := by
                     refine ⟨?_, ?_, ?_⟩
                     · rw [HN.out, HH.out]; exact F.d
                     · rw [hv]; exact F.l
                     · rw [hv]; exact F.o
                   have HFin := Lib.hid hfin
                   clear hfin hstay hv F
                   by_cases h8 : S.length ≤ j
                   · have d1 : decide ((j : Int) < (S.length : Int)) = false := by simp; omega
                     generalize S.length = ls at *
                     subst hv8
                     go_wp2_with fail
                     go_ret
                     exact ⟨db, lb, ob, rfl, HF.out.below, nd, nl, no, HFin.out⟩
                   · have d1 : decide ((j : Int) < (S.length : Int)) = true := by simp; omega
                     have hgn : st.great = [] := by
                       rcases hend with h | h
                       · rw [h] at hS; exact absurd (drop_nil_parts hS) h8
                       · exact h
                     rw [hgn] at hGd
                     have d2 : ¬ f < G.length := by have := drop_nil_parts hGd; omega
                     generalize S.length = ls at *
                     generalize G.length = lg at *
                     subst hv8
                     subst hv9
                     go_wp2_with fail
                     go_ret
                     exact ⟨db, lb, ob, rfl, HF.out.below, nd, nl, no, HFin.out⟩
                 · obtain ⟨small, great, rest, cols⟩ := st
                   cases small with
                   | nil => exact absurd (.inl rfl) hend
                   | cons s sm =>
                   cases great with
                   | nil => exact absurd (.inr rfl) hend
                   | cons g gr =>
                   clear hend F
                   obtain ⟨hsl1, hsx, hsd⟩ := drop_cons_parts hS
                   obtain ⟨hgl1, hgx, hgd⟩ := drop_cons_parts hGd
                   have d1 : decide ((j : Int) < (S.length : Int)) = true := by simp; omega
                   have d2 : decide ((f : Int) < (G.length : Int)) = true := by simp; omega
                   obtain ⟨g8, off8, cp8, hv8', _, _, hp8, hm8, hc8⟩ := HF.out.s8.cells (by simp [natVs]; omega)
                   obtain ⟨g9, off9, cp9, hv9', _, _, hp9, hm9, hc9⟩ := HF.out.s9.cells (by simp [natVs]; omega)
                   rw [show (natVs S).length = S.length by simp [natVs]] at hv8' hp8
                   rw [show (natVs G).length = G.length by simp [natVs]] at hv9' hp9
                   have e8 := hc8 j (by simpa [natVs] using hsl1)
                   have e9 := hc9 f (by simpa [natVs] using hgl1)
                   simp only [natVs, List.getElem?_map, hsx, hgx, Option.map_some] at e8 e9
                   rw [hv8'] at hv8; cases hv8
                   rw [hv9'] at hv9; cases hv9
                   subst hv8'
                   subst hv9'
                   have hsI := HI.out.sm s (by simp)
                   have hgI := HI.out.gr g (by simp)
                   have hgU := HI.out.rest_le (by rw [HH.out]; omega) (g := g) (by simp)
                   have hsk := HI.out.lt s (by simp)
                   have hgk := HI.out.lt g (by simp)
                   rw [HH.out] at hsI hgI hgU
                   rw [HN.out] at hsk hgk hgU
                   have hku : H * (k : Int) ≤ 68719476736 * 64 := Int.mul_le_mul hs2 (by omega) (by omega) (by omega)
                   simp only at hsI hgI hgU
                   have hff := VS.final_step (w := zs) HI.out (s := s) (g := g) (sm := sm) (gr := gr) rfl rfl
                   rw [HH.out] at hff
                   have hj : j < k := by
                     rcases Nat.lt_or_ge j k with h | h
                     · exact h
                     · exfalso
                       have hjk : j = k := by have := hG.out; omega
                       have he := VS.run_end (v := VS.start zs) (H := H) (n := k) (by have := I0.out.few; rw [HN.out] at this; exact this)
                       rw [← hjk, ← HST.out] at he
                       simp at he
                   have hstep : (VS.start zs).run H (j + 1) = if rest.getD g 0 - (H - rest.getD s 0) < H then ⟨sm ++ [g], gr, rest.set g (rest.getD g 0 - (H - rest.getD s 0)), cols.set s (rest.getD s 0, (g : Int))⟩ else ⟨sm, g :: gr, rest.set g (rest.getD g 0 - (H - rest.getD s 0)), cols.set s (rest.getD s 0, (g : Int))⟩ := by
                     show ((VS.start zs).run H j).step H = _
                     rw [← HST.out]
                     unfold VS.step
                     rfl
                   rw [HST.out] at hff
                   rw [show (((VS.start zs).run H j).step H) = (VS.start zs).run H (j + 1) from rfl, ← HST.out] at hff
                   generalize hfinl : ((VS.mk (s :: sm) (g :: gr) rest cols).final H) = fin at *
                   generalize hrs : rest.getD s 0 = rs at *
                   generalize hrg : rest.getD g 0 = rg at *
                   have HRS := Lib.hid hrs; have HRG := Lib.hid hrg; have HFF := Lib.hid hff; have HSt := Lib.hid hstep
                   have Hsd := Lib.hid hsd; have Hgd := Lib.hid hgd; have HGd := Lib.hid hGd
                   have hls : S.length ≤ 128 := by omega
                   generalize hlS : S.length = ls at *
                   generalize hlG : G.length = lg at *
                   have HlS := Lib.hid hlS
                   clear hrs hrg hff hstep hsd hgd hGd hS hfinl hsx hgx hc8 hc9 hp8 hp9 hm8 hm9 hlS hlG HI
                   go_wp2_with fail
                   go_upto_region 28 with fail
                   go_cut [] (fun wx => RF W db lb ob rb k H (.slice (some ⟨g8, off8, none⟩) ls cap8) (.slice (some ⟨g9, off9, none⟩) lg cap9) S G rest ((fin.map (·.1)).set s rs) (fin.map (·.2)) wx)
                   case first =>
                     have q1 := HF.out.lcell
                     have q2 := HF.out.rcell hsk
                     have q3 := HF.out.lincell hsk
                     have q4 := HF.out.l.frozen s
                     rw [HRS.out] at q2
                     have F2 := Lib.hid (HF.out.setLine s rs)
                     generalize (fin.map (·.1)).getD s 0 = old1 at *
                     clear HF e8 e9
                     go_region
                     all_goals go_wp2_with fail
                     all_goals go_meet
                     all_goals (case rel => exact F2.out.drewN 1)
                   case rest =>
                     clear HF e8 e9
                     have HF := Lib.hid hcut; clear hcut
                     have q1 := HF.out.ocell
                     have q2 := HF.out.othcell hsk
                     have q3 := HF.out.o.frozen s
                     have F2 := Lib.hid (HF.out.setOther s (g : Int))
                     generalize (fin.map (·.2)).getD s 0 = old2 at *
                     clear HF
                     go_upto_region 30 with fail
                     go_cut [] (fun wx => RF W db lb ob rb k H (.slice (some ⟨g8, off8, none⟩) ls cap8) (.slice (some ⟨g9, off9, none⟩) lg cap9) S G (rest.set g (rg - (H - rs))) ((fin.map (·.1)).set s rs) ((fin.map (·.2)).set s (g : Int)) wx)
                     case first =>
                       have r1 := F2.out.high
                       have r2 := F2.out.rcell hsk
                       have r3 := F2.out.rcell hgk
                       rw [HRS.out] at r2
                       rw [HRG.out] at r3
                       have r4 := F2.out.r.frozen g
                       have F3 := Lib.hid (F2.out.setRest g (rg - (H - rs)))
                       clear F2 q1 q2 q3
                       go_region
                       all_goals go_wp2_with fail
                       all_goals go_meet
                       all_goals (case rel => exact F3.out.drewN 1)
                     case rest =>
                       clear F2 q1 q2 q3
                       have HF := Lib.hid hcut; clear hcut
                       have q1 := HF.out.high
                       have q2 := HF.out.rcell hgk
                       rw [getD_set_same _ _ _ _ (by have := HF.out.rl; simpa using (show g < rest.length by simp at this; omega))] at q2
                       have hmap1 : (fin.set s (rs, (g : Int))).map (·.1) = (fin.map (·.1)).set s rs := by rw [List.map_set]
                       have hmap2 : (fin.set s (rs, (g : Int))).map (·.2) = (fin.map (·.2)).set s (g : Int) := by rw [List.map_set]
                       have HM1 := Lib.hid hmap1; have HM2 := Lib.hid hmap2
                       clear hmap1 hmap2
                       generalize hrn : rg - (H - rs) = rn at *
                       by_cases hlt2 : rn < H
                       · go_wp2_with fail
                         go_quiet (fail)
                         have FA := Lib.hid ((HF.out.drewN nq).alloc (.cells #[.int .i64 (g : Int)] 3))
                         go_wp2_with (at_builtin; refine wpList_append_sl _ rfl (.tmp 160) (.tmp 162) 28 rfl (rb + 1) 3 i0 (.int .i64 0) 8 Tryz.underlying28 hi hz0 hz1 hz2 rfl (.slice (some ⟨g8, off8, none⟩) ls cap8) (natVs S) rfl FA.out.s8 ⟨_, 0, none⟩ (.int .i64 g) rfl (cell_one_at _ _ _ _ (by simp)) (ints_oneCell _ [_]) (hlen1b _ (by simp [natVs]; have := HlS.out; omega)) (hlen2b _ (by simp [natVs]; have := HlS.out; omega)) (by have := FA.out.rLt; simpa using this) ?_)
                         intro v' w2 h5 hg hw
                         have F2 := FA.out.app8 (v' := v') (w' := w2) (S' := S ++ [g]) hg (by rw [natVs_append]; exact h5) (by simpa using hw)
                         have HF2 := Lib.hid F2; clear F2 h5 hg hw
                         go_wp2_with fail
                         have hg := hG.out
                         go_roundg (k - (j + 1))
                         case measure => omega
                         case rel =>
                           refine ⟨j + 1, f + 1, S ++ [g], by omega, by go_num, by go_num, by omega, by simp; have := HlS.out; omega, ?_, ?_, ?_⟩
                           · rw [HSt.out, if_pos hlt2, List.drop_append_of_le_length (by have := HlS.out; omega), Hsd.out]
                           · rw [HSt.out, if_pos hlt2, Hgd.out]
                           · rw [HFF.out, HM1.out, HM2.out, HSt.out, if_pos hlt2]; exact HF2.out
                       · go_wp2_with fail
                         go_quiet (fail)
                         go_wp2_with fail
                         have hg := hG.out
                         go_roundg (k - (j + 1))
                         case measure => omega
                         case rel =>
                           refine ⟨j + 1, f, S, by omega, by go_num, rfl, by omega, by have := HlS.out; omega, ?_, ?_, ?_⟩
                           · rw [HSt.out, if_neg (show ¬ rn < H by omega), Hsd.out]
                           · rw [HSt.out, if_neg (show ¬ rn < H by omega), HGd.out]
                           · rw [HFF.out, HM1.out, HM2.out, HSt.out, if_neg (show ¬ rn < H by omega)]; exact HF.out.drewN _
end Go.Proofs.YtajnfkmkombajaaGreatDoor
namespace Go.Proofs.YtajnfkmkombajaaGreatDoor
open Go.RowKit
theorem ret_pair {P : Program} {fn : Func} {p : Tmp} {ty : TypeId} (h : fn.results = #[.cell p ty]) (tmps : Array Value) (w : World) (g : Nat) (t : TypeId) (x y : Value) (fr : Nat × Nat) (d : TypeDesc)
   (hp : tmps.getD p undef = .pointer (some ⟨g, 0, none⟩)) (hg : w.heap[g]? = some (.cells #[x, y] t fr))
   (hu : P.underlying ty = some d) (hd : (match d with | .struct _ | .array _ _ => true | _ => false) = true) (hi : (P.info? ty).map (·.size) = some 2) :
   (results fn tmps).run P w = .ok (.agg #[x, y]) w := results_cell_row h tmps w g t #[x, y] fr d hp hg hu hd hi
theorem heap_two (w : World) (A B : Obj) : ((w.alloc A).alloc B).heap[w.heap.size]? = some A := by
 show ((w.heap.push A).push B)[w.heap.size]? = some A
 rw [Array.getElem?_push, if_neg (by simp), Array.getElem?_push, if_pos rfl]
theorem heap_drewN (w : World) (A : Obj) (n : Nat) : ((w.alloc A).drewN n).heap[w.heap.size]? = some A := heap_alloc_new w A
theorem heap_drewN2 (w : World) (A B : Obj) (n : Nat) : (((w.alloc A).drewN n).alloc B).heap[w.heap.size]? = some A := heap_two w A B
@[go_sem] theorem drewN_setCell (w : World) (n : Nat) (a : Addr) (v : Value) : (w.drewN n).setCell a v = (w.setCell a v).drewN n := by
 simp only [World.drewN, World.setCell]
theorem ref_Fine (w : World) : Calls Tryz.prog 128 #[] w fun e w' => e = .returned (.agg #[.int .i64 0, .int .i64 (-1)]) ∧ w' = w.alloc (.cells #[.int .i64 0, .int .i64 (-1)] 65) := by
 go_enter Tryz.func128, Tryz.ntmps128
 go_wp2
 (try simp only [Exit.inBlock, Exit.then])
 refine bodyPost_ret (v := .agg #[.int .i64 0, .int .i64 (-1)]) (ret_pair rfl _ _ w.heap.size _ _ _ _ _ rfl (heap_alloc_new _ _) Tryz.underlying65 rfl (by kernel_rfl)) rfl ?_
 exact ⟨rfl, rfl⟩
theorem ref_Bare (c : Int) (w : World) : Calls Tryz.prog 66 #[.int .i64 c] w fun e w' => e = .returned (.agg #[.int .i64 c, .int .i64 (-1)]) ∧ w' = w.alloc (.cells #[.int .i64 c, .int .i64 (-1)] 65) := by
 go_enter Tryz.func66, Tryz.ntmps66
 go_wp2
 (try simp only [Exit.inBlock, Exit.then])
 refine bodyPost_ret (v := .agg #[.int .i64 c, .int .i64 (-1)]) (ret_pair rfl _ _ w.heap.size _ _ _ _ _ rfl (heap_alloc_new _ _) Tryz.underlying65 rfl (by kernel_rfl)) rfl ?_
 exact ⟨rfl, rfl⟩
end Go.Proofs.YtajnfkmkombajaaGreatDoor
