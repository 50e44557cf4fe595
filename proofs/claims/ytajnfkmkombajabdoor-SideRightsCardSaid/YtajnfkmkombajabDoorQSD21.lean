/-
  side.all: the two channels and their boxes are made, in whatever order.
  side.all: its entry, up to the workers' start.
-/
import Derived.Test.YtajnfkmkombajabDoorQSD19
import Derived.Test.YtajnfkmkombajabDoorQSD20
set_option linter.unusedVariables false
set_option linter.unusedSimpArgs false
namespace Go.Proofs.YtajnfkmkombajabDoor
open Go Go.Conc Go.ConcN Go.RowKit Go.Conc.Lib Go.ConcR.Gen Go.ConcN.Gen
open Go.ConcR (KK wgBlock WgAt stA smA)
def chO : Obj := .chan 0 #[] false 0 0 false
def I1 (I : World → Prop) (B : Nat) (w : World) : Prop := I w ∧ w.heap[B]? = some chO
def Ix (I : World → Prop) : List Nat → World → Prop
 | [] => I
 | [B] => I1 I B
 | B :: B' :: _ => I1 (I1 I B) B'
def Sx (I : World → Prop) (S : Nat → Prop) (Stop2 : Nat → Nat → Goroutine → World → (Nat → Prop) → Prop) : List Nat → Goroutine → World → (Nat → Prop) → Prop
 | [] => AtMake Tryd.prog chO fun B => GoesW Tryd.prog true (I1 I B) S (AtMake Tryd.prog chO fun B' => GoesW Tryd.prog true (I1 (I1 I B) B') S (Stop2 B B'))
 | [B] => AtMake Tryd.prog chO fun B' => GoesW Tryd.prog true (I1 (I1 I B) B') S (Stop2 B B')
 | B :: B' :: _ => Stop2 B B'
def Stg (I : World → Prop) (S : Nat → Prop) (Stop2 : Nat → Nat → Goroutine → World → (Nat → Prop) → Prop) (x : List Nat) (g : Goroutine) (W : World) (M : Nat → Prop) : Prop := GoesW Tryd.prog true (Ix I x) S (Sx I S Stop2 x) g W M
def Box (W W' : World) (M' : Nat → Prop) (B : Nat) (t : TypeId) (v : Value) : Prop := W.heap.size ≤ B ∧ B < W'.heap.size ∧ M' B ∧ W'.heap[B]? = some (.cells #[v] t (0, 0))
theorem Box.on {W W' W'' : World} {S M' M'' : Nat → Prop} {B : Nat} {t : TypeId} {v : Value} (h : Box W W' M' B t v) (r : RelyS S M' W' W'') (hm : ∀ b, M' b → M'' b) : Box W W'' M'' B t v :=
 ⟨h.1, Nat.lt_of_lt_of_le h.2.1 r.size, hm _ h.2.2.1, by rw [r.keep B h.2.1 (.inr h.2.2.1)]; exact h.2.2.2⟩
def J1 (S M : Nat → Prop) (W : World) (v0 v1 v2 v3 v4 v5 v6 v7 v10 v11 v12 v13 v14 v17 v18 v19 v20 v21 v22 v23 v24 v25 v26 v27 v28 v29 v30 v31 v32 v33 v34 v35 v36 v37 v38 v39 v40 v41 v42 v43 v44 v45 v46 v47 v48 v49 v50 v51 v52 v53 v54 v55 v56 v57 v58 v59 v60 v61 : Value) (l : Array Bool) (x : List Nat) (a : Act) (W' : World) (M' : Nat → Prop) : Prop :=
 ∃ x15 x16 x8 x9, ∃ Td Bk b8 b9 : Nat, a = ⟨(List.toArray (v0 :: v1 :: v2 :: v3 :: v4 :: v5 :: v6 :: v7 :: x8 :: x9 :: v10 :: v11 :: v12 :: v13 :: v14 :: x15 :: x16 :: v17 :: v18 :: v19 :: v20 :: v21 :: v22 :: v23 :: v24 :: v25 :: v26 :: v27 :: v28 :: v29 :: v30 :: v31 :: v32 :: v33 :: v34 :: v35 :: v36 :: v37 :: v38 :: v39 :: v40 :: v41 :: v42 :: v43 :: v44 :: v45 :: v46 :: v47 :: v48 :: v49 :: v50 :: v51 :: v52 :: v53 :: v54 :: v55 :: v56 :: v57 :: v58 :: v59 :: v60 :: v61 :: [])), []⟩ ∧ RelyS S M W W' ∧ (∀ b, M b → M' b) ∧ (∀ b, M' b → b < W'.heap.size ∧ (M b ∨ W.heap.size ≤ b) ∧ (l.getD 0 false = true → b ≠ Td) ∧ (l.getD 1 false = true → b ≠ Bk)) ∧
   (l.getD 0 false = true → x15 = .chan (some Td) ∧ W.heap.size ≤ Td ∧ Td < W'.heap.size) ∧ (l.getD 1 false = true → x16 = .chan (some Bk) ∧ W.heap.size ≤ Bk ∧ Bk < W'.heap.size) ∧ (l.getD 0 false = true → l.getD 1 false = true → Td ≠ Bk) ∧
   (l.getD 2 false = true → x8 = .pointer (some ⟨b8, 0, none⟩) ∧ Box W W' M' b8 188 (if l.getD 4 false then .chan (some Td) else .chan none)) ∧ (l.getD 3 false = true → x9 = .pointer (some ⟨b9, 0, none⟩) ∧ Box W W' M' b9 189 (if l.getD 5 false then .chan (some Bk) else .chan none)) ∧ (l.getD 2 false = true → l.getD 3 false = true → b8 ≠ b9) ∧
   (l.getD 4 false = true → l.getD 0 false = true ∧ l.getD 2 false = true) ∧ (l.getD 5 false = true → l.getD 1 false = true ∧ l.getD 3 false = true) ∧
   (l.getD 0 false = false → l.getD 1 false = false → x = []) ∧ (l.getD 0 false = true → l.getD 1 false = false → x = [Td]) ∧ (l.getD 0 false = false → l.getD 1 false = true → x = [Bk]) ∧ (l.getD 0 false = true → l.getD 1 false = true → x = [Td, Bk] ∨ x = [Bk, Td])
theorem U188 : Tryd.prog.underlying 188 = some (.chan .both 3) := by kernel_rfl
theorem U189 : Tryd.prog.underlying 189 = some (.chan .both 201) := by kernel_rfl
theorem i3y : (Tryd.prog.info? 3).isSome = true := by kernel_rfl
theorem i201y : (Tryd.prog.info? 201).isSome = true := by kernel_rfl
theorem run_chan_op {P : Program} {a : Act} {o : Oper} {t e : TypeId} {dir : ChanDir} (hop : o.op = .makeChan t (.const (.int .i64 0))) (ht : P.underlying t = some (.chan dir e)) (hi : (P.info? e).isSome = true) (w : World) :
   (execOp a.eval o).run P w = .ok (.value (.chan (some w.heap.size))) (w.alloc chO) ∧ (execOp a.eval o).events P w #[] = #[] := by
 obtain ⟨i, hi⟩ := Option.isSome_iff_exists.1 hi
 have h1 := run_makeChan (P := P) (w := w) ht hi .i64 0 (by simp) (by simp)
 have h2 := events_makeChan (P := P) (w := w) ht hi .i64 0 (by simp) (by simp) #[]
 simp only [Int.natCast_zero, Int.cast_ofNat_Int] at h1 h2
 constructor
 · unfold execOp
   simp [hop, Act.eval, h1, chO]
 · unfold execOp
   simp [hop, Act.eval, h1, h2]
theorem tf : ¬ (true = false) := by decide
theorem stepG_chan {P : Program} {mn : Bool} {a : Act} {b : Frame} {k : List Item} {cs : List Frame} {ops : Array Oper} {i : Nat} {rest : List Nat} {o : Oper} {t e : TypeId} {dir : ChanDir} (ho : ops[i]? = some o) (hw : Region.wanted o (yielded ops a.tmps) = true) (hk : b.kind ≠ .early) (hop : o.op = .makeChan t (.const (.int .i64 0))) (ht : P.underlying t = some (.chan dir e)) (hi : (P.info? e).isSome = true) (w : World) :
   stepG P mn (G (b.at a (.inRegion ops (i :: rest) :: k)) cs) w = .go (G (b.at (a.put o.dst (.chan (some w.heap.size))) (.inRegion ops rest :: k)) cs) (w.alloc chO) #[] := by
 rw [stepG_value ho hw hk (run_chan_op hop ht hi w).1, listed, (run_chan_op hop ht hi w).2, seen_none]
theorem rely_own {S M M' : Nat → Prop} {W W' W'' : World} {g : Nat} (r : RelyS S M W W') (hg : W.heap.size ≤ g) (hm : ∀ b, M b → M' b) (q : RelyS (fun x => S x ∧ x ≠ g) (fun x => M' x ∧ x ≠ g) W' W'') : RelyS S M W W'' :=
 ⟨by rw [q.os, r.os], by rw [q.out, r.out], by rw [q.tape, r.tape], Nat.le_trans r.size q.size, fun b hb hs => by
   rw [q.keep b (Nat.lt_of_lt_of_le hb r.size) (hs.imp (fun p => ⟨p, by omega⟩) (fun p => ⟨hm b p, by omega⟩)), r.keep b hb hs]⟩
noncomputable def rg1 : Array Oper := match bodyC with | .seq _ (.seq (.region _ ops _) _) => ops | _ => #[]
set_option maxRecDepth 100000 in
set_option maxHeartbeats 4000000 in
theorem reg1 {I : World → Prop} {S M : Nat → Prop} {Stop2 : Nat → Nat → Goroutine → World → (Nat → Prop) → Prop} {W : World} (hM : ∀ b, M b → b < W.heap.size) {v0 v1 v2 v3 v4 v5 v6 v7 v10 v11 v12 v13 v14 v17 v18 v19 v20 v21 v22 v23 v24 v25 v26 v27 v28 v29 v30 v31 v32 v33 v34 v35 v36 v37 v38 v39 v40 v41 v42 v43 v44 v45 v46 v47 v48 v49 v50 v51 v52 v53 v54 v55 v56 v57 v58 v59 v60 v61 x15 x16 x8 x9 : Value} {k : List Item} {cs : List Frame} {rid : Nat}
   (h : ∀ W' M' Td Bk b8 b9 x, x = [Td, Bk] ∨ x = [Bk, Td] → RelyS S M W W' → (∀ b, M b → M' b) → (∀ b, M' b → b < W'.heap.size ∧ (M b ∨ W.heap.size ≤ b) ∧ b ≠ Td ∧ b ≠ Bk) → W.heap.size ≤ Td → Td < W'.heap.size → W.heap.size ≤ Bk → Bk < W'.heap.size → Td ≠ Bk → Box W W' M' b8 188 (.chan (some Td)) → Box W W' M' b9 189 (.chan (some Bk)) → b8 ≠ b9 →
     Stg I S Stop2 x (G ((base 138).at ⟨(List.toArray (v0 :: v1 :: v2 :: v3 :: v4 :: v5 :: v6 :: v7 :: .pointer (some ⟨b8, 0, none⟩) :: .pointer (some ⟨b9, 0, none⟩) :: v10 :: v11 :: v12 :: v13 :: v14 :: .chan (some Td) :: .chan (some Bk) :: v17 :: v18 :: v19 :: v20 :: v21 :: v22 :: v23 :: v24 :: v25 :: v26 :: v27 :: v28 :: v29 :: v30 :: v31 :: v32 :: v33 :: v34 :: v35 :: v36 :: v37 :: v38 :: v39 :: v40 :: v41 :: v42 :: v43 :: v44 :: v45 :: v46 :: v47 :: v48 :: v49 :: v50 :: v51 :: v52 :: v53 :: v54 :: v55 :: v56 :: v57 :: v58 :: v59 :: v60 :: v61 :: [])), []⟩ k) cs) W' M') :
   Stg I S Stop2 [] (G ((base 138).at ⟨(List.toArray (v0 :: v1 :: v2 :: v3 :: v4 :: v5 :: v6 :: v7 :: x8 :: x9 :: v10 :: v11 :: v12 :: v13 :: v14 :: x15 :: x16 :: v17 :: v18 :: v19 :: v20 :: v21 :: v22 :: v23 :: v24 :: v25 :: v26 :: v27 :: v28 :: v29 :: v30 :: v31 :: v32 :: v33 :: v34 :: v35 :: v36 :: v37 :: v38 :: v39 :: v40 :: v41 :: v42 :: v43 :: v44 :: v45 :: v46 :: v47 :: v48 :: v49 :: v50 :: v51 :: v52 :: v53 :: v54 :: v55 :: v56 :: v57 :: v58 :: v59 :: v60 :: v61 :: [])), []⟩ (.code (.region rid rg1 true) :: k)) cs) W M := by
 simp only [rg1, bodyC, Tryd.f138, Option.getD_some]
 refine gw_draw fun W1 r1 t => ?_
 refine drawn_all (X := List Nat) rfl (fun l x a W' M' => J1 S M W v0 v1 v2 v3 v4 v5 v6 v7 v10 v11 v12 v13 v14 v17 v18 v19 v20 v21 v22 v23 v24 v25 v26 v27 v28 v29 v30 v31 v32 v33 v34 v35 v36 v37 v38 v39 v40 v41 v42 v43 v44 v45 v46 v47 v48 v49 v50 v51 v52 v53 v54 v55 v56 v57 v58 v59 v60 v61 l x a W' M') (fun x g W M => Stg I S Stop2 x g W M) ?_ ?_ (x := []) t ⟨x15, x16, x8, x9, 0, 0, 0, 0, rfl, r1, fun b q => q, fun b q => ⟨Nat.lt_of_lt_of_le (hM b q) r1.size, .inl q, fun q => absurd q Bool.false_ne_true, fun q => absurd q Bool.false_ne_true⟩, fun q => absurd q Bool.false_ne_true, fun q => absurd q Bool.false_ne_true, fun q => absurd q Bool.false_ne_true, fun q => absurd q Bool.false_ne_true, fun q => absurd q Bool.false_ne_true, fun q => absurd q Bool.false_ne_true, fun q => absurd q Bool.false_ne_true, fun q => absurd q Bool.false_ne_true, fun _ _ => rfl, fun q => absurd q Bool.false_ne_true, fun _ q => absurd q Bool.false_ne_true, fun q => absurd q Bool.false_ne_true⟩
 · intro l x a W' M' i rest hs hJ hi hK
   obtain ⟨l0, l1, l2, l3, l4, l5, rfl⟩ := arr6b l hs
   obtain ⟨x15, x16, x8, x9, Td, Bk, b8, b9, rfl, r, m1, m2, j0, j1, j01, j2, j3, j23, j4, j5, c0, c1, c2, c3⟩ := hJ
   have hlt := ready_lt hi
   have s1 := r.size
   rcases (show i = 0 ∨ i = 1 ∨ i = 2 ∨ i = 3 ∨ i = 4 ∨ i = 5 by change i < 6 at hlt; omega) with rfl | rfl | rfl | rfl | rfl | rfl
   · have hnew : l0 = false := ready_new hi
     subst hnew
     have hn4 : l4 = false := by cases l4 with
       | false => rfl
       | true => exact absurd (j4 rfl).1 Bool.false_ne_true
     subst hn4
     have fin : ∀ W1, RelyS S M' W' W1 → ∀ x', (l1 = false → x' = [W1.heap.size]) → (l1 = true → x' = [Bk, W1.heap.size]) → J1 S M W v0 v1 v2 v3 v4 v5 v6 v7 v10 v11 v12 v13 v14 v17 v18 v19 v20 v21 v22 v23 v24 v25 v26 v27 v28 v29 v30 v31 v32 v33 v34 v35 v36 v37 v38 v39 v40 v41 v42 v43 v44 v45 v46 v47 v48 v49 v50 v51 v52 v53 v54 v55 v56 v57 v58 v59 v60 v61 ((#[false, l1, l2, l3, false, l5] : Array Bool).setIfInBounds 0 true) x' (Act.put ⟨(List.toArray (v0 :: v1 :: v2 :: v3 :: v4 :: v5 :: v6 :: v7 :: x8 :: x9 :: v10 :: v11 :: v12 :: v13 :: v14 :: x15 :: x16 :: v17 :: v18 :: v19 :: v20 :: v21 :: v22 :: v23 :: v24 :: v25 :: v26 :: v27 :: v28 :: v29 :: v30 :: v31 :: v32 :: v33 :: v34 :: v35 :: v36 :: v37 :: v38 :: v39 :: v40 :: v41 :: v42 :: v43 :: v44 :: v45 :: v46 :: v47 :: v48 :: v49 :: v50 :: v51 :: v52 :: v53 :: v54 :: v55 :: v56 :: v57 :: v58 :: v59 :: v60 :: v61 :: [])), []⟩ (some 15) (.chan (some W1.heap.size))) (W1.alloc chO) M' := by
       intro W1 q1 x' hx1 hx2
       have s2 := q1.size
       have s3 := alloc_size W1 chO
       exact ⟨_, _, _, _, W1.heap.size, Bk, b8, b9, rfl, rely_push (r.trans (q1.mono fun b q => q.imp (fun q => q) (m1 b))), m1, fun b q => ⟨by have := (m2 b q).1; omega, (m2 b q).2.1, fun _ => by have := (m2 b q).1; omega, (m2 b q).2.2.2⟩, fun _ => ⟨rfl, by omega, by omega⟩, fun q => ⟨(j1 q).1, (j1 q).2.1, by have := (j1 q).2.2; omega⟩, fun _ q => by have := (j1 q).2.2; omega,
         fun q => ⟨(j2 q).1, (j2 q).2.on (rely_push q1) fun b q => q⟩, fun q => ⟨(j3 q).1, (j3 q).2.on (rely_push q1) fun b q => q⟩, j23, fun q => absurd q Bool.false_ne_true, j5, fun q => absurd q tf, fun _ q => hx1 q, fun q => absurd q tf, fun _ q => .inr (hx2 q)⟩
     cases l1 with
     | false =>
       obtain rfl := c0 rfl rfl
       exact GoesW.stop fun W1 q1 _ => ⟨rfl, _, _, stepG_chan rfl rfl (by k_ne) rfl U188 i3y W1, rfl, hK [W1.heap.size] _ (W1.alloc chO) M' (fin W1 q1 _ (fun _ => rfl) (fun q => absurd q Bool.false_ne_true))⟩
     | true =>
       obtain rfl := c2 rfl rfl
       exact GoesW.stop fun W1 q1 _ => ⟨rfl, _, _, stepG_chan rfl rfl (by k_ne) rfl U188 i3y W1, rfl, hK [Bk, W1.heap.size] _ (W1.alloc chO) M' (fin W1 q1 _ (fun q => absurd q tf) (fun _ => rfl))⟩
   · have hnew : l1 = false := ready_new hi
     subst hnew
     have hn4 : l5 = false := by cases l5 with
       | false => rfl
       | true => exact absurd (j5 rfl).1 Bool.false_ne_true
     subst hn4
     have fin : ∀ W1, RelyS S M' W' W1 → ∀ x', (l0 = false → x' = [W1.heap.size]) → (l0 = true → x' = [Td, W1.heap.size]) → J1 S M W v0 v1 v2 v3 v4 v5 v6 v7 v10 v11 v12 v13 v14 v17 v18 v19 v20 v21 v22 v23 v24 v25 v26 v27 v28 v29 v30 v31 v32 v33 v34 v35 v36 v37 v38 v39 v40 v41 v42 v43 v44 v45 v46 v47 v48 v49 v50 v51 v52 v53 v54 v55 v56 v57 v58 v59 v60 v61 ((#[l0, false, l2, l3, l4, false] : Array Bool).setIfInBounds 1 true) x' (Act.put ⟨(List.toArray (v0 :: v1 :: v2 :: v3 :: v4 :: v5 :: v6 :: v7 :: x8 :: x9 :: v10 :: v11 :: v12 :: v13 :: v14 :: x15 :: x16 :: v17 :: v18 :: v19 :: v20 :: v21 :: v22 :: v23 :: v24 :: v25 :: v26 :: v27 :: v28 :: v29 :: v30 :: v31 :: v32 :: v33 :: v34 :: v35 :: v36 :: v37 :: v38 :: v39 :: v40 :: v41 :: v42 :: v43 :: v44 :: v45 :: v46 :: v47 :: v48 :: v49 :: v50 :: v51 :: v52 :: v53 :: v54 :: v55 :: v56 :: v57 :: v58 :: v59 :: v60 :: v61 :: [])), []⟩ (some 16) (.chan (some W1.heap.size))) (W1.alloc chO) M' := by
       intro W1 q1 x' hx1 hx2
       have s2 := q1.size
       have s3 := alloc_size W1 chO
       exact ⟨_, _, _, _, Td, W1.heap.size, b8, b9, rfl, rely_push (r.trans (q1.mono fun b q => q.imp (fun q => q) (m1 b))), m1, fun b q => ⟨by have := (m2 b q).1; omega, (m2 b q).2.1, (m2 b q).2.2.1, fun _ => by have := (m2 b q).1; omega⟩, fun q => ⟨(j0 q).1, (j0 q).2.1, by have := (j0 q).2.2; omega⟩, fun _ => ⟨rfl, by omega, by omega⟩, fun q _ => by have := (j0 q).2.2; omega,
         fun q => ⟨(j2 q).1, (j2 q).2.on (rely_push q1) fun b q => q⟩, fun q => ⟨(j3 q).1, (j3 q).2.on (rely_push q1) fun b q => q⟩, j23, j4, fun q => absurd q Bool.false_ne_true, fun _ q => absurd q tf, fun _ q => absurd q tf, fun q _ => hx1 q, fun q _ => .inl (hx2 q)⟩
     cases l0 with
     | false =>
       obtain rfl := c0 rfl rfl
       exact GoesW.stop fun W1 q1 _ => ⟨rfl, _, _, stepG_chan rfl rfl (by k_ne) rfl U189 i201y W1, rfl, hK [W1.heap.size] _ (W1.alloc chO) M' (fin W1 q1 _ (fun _ => rfl) (fun q => absurd q Bool.false_ne_true))⟩
     | true =>
       obtain rfl := c1 rfl rfl
       exact GoesW.stop fun W1 q1 _ => ⟨rfl, _, _, stepG_chan rfl rfl (by k_ne) rfl U189 i201y W1, rfl, hK [Td, W1.heap.size] _ (W1.alloc chO) M' (fin W1 q1 _ (fun q => absurd q tf) (fun _ => rfl))⟩
   · have hnew : l2 = false := ready_new hi
     subst hnew
     have hn4 : l4 = false := by cases l4 with
       | false => rfl
       | true => exact absurd (j4 rfl).2 Bool.false_ne_true
     subst hn4
     refine gw_push (v := fun B => .pointer (some ⟨B, 0, none⟩)) (ob := .cells #[.chan none] 188 (0, 0)) rfl rfl (by k_ne) (fun w _ _ => by go_simp) (fun w _ _ e he => by have hm := mem_listed he; simp [go_sem] at hm) (fun W2 B q2 g1 g2 g3 => ?_)
     have s2 := q2.size
     exact hK x _ _ _ ⟨_, _, _, _, Td, Bk, B, b9, rfl, r.trans (q2.mono fun b q => q.imp (fun q => q) (m1 b)), fun b q => .inl (m1 b q), fun b q => q.elim (fun q => ⟨by have := (m2 b q).1; omega, (m2 b q).2⟩) (fun q => ⟨by omega, .inr (by omega), fun p => by have := (j0 p).2.2; omega, fun p => by have := (j1 p).2.2; omega⟩),
       fun q => ⟨(j0 q).1, (j0 q).2.1, by have := (j0 q).2.2; omega⟩, fun q => ⟨(j1 q).1, (j1 q).2.1, by have := (j1 q).2.2; omega⟩, j01, fun _ => ⟨rfl, by omega, g2, .inr rfl, g3⟩, fun q => ⟨(j3 q).1, (j3 q).2.on q2 fun b q => .inl q⟩, fun _ q => by have := (j3 q).2.2.1; omega, fun q => absurd q Bool.false_ne_true, j5, c0, c1, c2, c3⟩
   · have hnew : l3 = false := ready_new hi
     subst hnew
     have hn4 : l5 = false := by cases l5 with
       | false => rfl
       | true => exact absurd (j5 rfl).2 Bool.false_ne_true
     subst hn4
     refine gw_push (v := fun B => .pointer (some ⟨B, 0, none⟩)) (ob := .cells #[.chan none] 189 (0, 0)) rfl rfl (by k_ne) (fun w _ _ => by go_simp) (fun w _ _ e he => by have hm := mem_listed he; simp [go_sem] at hm) (fun W2 B q2 g1 g2 g3 => ?_)
     have s2 := q2.size
     exact hK x _ _ _ ⟨_, _, _, _, Td, Bk, b8, B, rfl, r.trans (q2.mono fun b q => q.imp (fun q => q) (m1 b)), fun b q => .inl (m1 b q), fun b q => q.elim (fun q => ⟨by have := (m2 b q).1; omega, (m2 b q).2⟩) (fun q => ⟨by omega, .inr (by omega), fun p => by have := (j0 p).2.2; omega, fun p => by have := (j1 p).2.2; omega⟩),
       fun q => ⟨(j0 q).1, (j0 q).2.1, by have := (j0 q).2.2; omega⟩, fun q => ⟨(j1 q).1, (j1 q).2.1, by have := (j1 q).2.2; omega⟩, j01, fun q => ⟨(j2 q).1, (j2 q).2.on q2 fun b q => .inl q⟩, fun _ => ⟨rfl, by omega, g2, .inr rfl, g3⟩, fun q _ => by have := (j2 q).2.2.1; omega, j4, fun q => absurd q Bool.false_ne_true, c0, c1, c2, c3⟩
   · have hnew : l4 = false := ready_new hi
     subst hnew
     obtain ⟨rfl, bx⟩ := j2 (ready_after hi rfl 0 rfl rfl)
     obtain ⟨rfl, ct⟩ := j0 (ready_after hi rfl 1 rfl rfl)
     refine gw_store (g := b8) (off := 0) (v := .chan (some Td)) (cur := #[.chan none]) rfl rfl (by k_ne) rfl rfl rfl ?_ bx.2.2.1 bx.2.1 bx.2.2.2 (by simp [Value.cells]) (by simp [Value.cells, Value.oneCell']) (fun W2 q2 x2 => ?_)
     · simp only [Value.cells]; kernel_rfl
     have s2 := q2.size
     have hb1 := bx.1
     exact hK x _ _ _ ⟨_, _, _, _, Td, Bk, b8, b9, rfl, rely_own r hb1 m1 q2, m1, fun b q => ⟨by have := (m2 b q).1; omega, (m2 b q).2⟩,
       fun q => ⟨(j0 q).1, (j0 q).2.1, by have := (j0 q).2.2; omega⟩, fun q => ⟨(j1 q).1, (j1 q).2.1, by have := (j1 q).2.2; omega⟩, j01, fun _ => ⟨rfl, hb1, by have := bx.2.1; omega, bx.2.2.1, x2⟩, fun q => ⟨(j3 q).1, (j3 q).2.1, by have := (j3 q).2.2.1; omega, (j3 q).2.2.2.1, by rw [q2.keep b9 (j3 q).2.2.1 (.inr ⟨(j3 q).2.2.2.1, fun e => j23 (ready_after hi rfl 0 rfl rfl) q e.symm⟩)]; exact (j3 q).2.2.2.2⟩, j23, fun _ => ⟨ready_after hi rfl 1 rfl rfl, ready_after hi rfl 0 rfl rfl⟩, j5, c0, c1, c2, c3⟩
   · have hnew : l5 = false := ready_new hi
     subst hnew
     obtain ⟨rfl, bx⟩ := j3 (ready_after hi rfl 0 rfl rfl)
     obtain ⟨rfl, ct⟩ := j1 (ready_after hi rfl 1 rfl rfl)
     refine gw_store (g := b9) (off := 0) (v := .chan (some Bk)) (cur := #[.chan none]) rfl rfl (by k_ne) rfl rfl rfl ?_ bx.2.2.1 bx.2.1 bx.2.2.2 (by simp [Value.cells]) (by simp [Value.cells, Value.oneCell']) (fun W2 q2 x2 => ?_)
     · simp only [Value.cells]; kernel_rfl
     have s2 := q2.size
     have hb1 := bx.1
     exact hK x _ _ _ ⟨_, _, _, _, Td, Bk, b8, b9, rfl, rely_own r hb1 m1 q2, m1, fun b q => ⟨by have := (m2 b q).1; omega, (m2 b q).2⟩,
       fun q => ⟨(j0 q).1, (j0 q).2.1, by have := (j0 q).2.2; omega⟩, fun q => ⟨(j1 q).1, (j1 q).2.1, by have := (j1 q).2.2; omega⟩, j01, fun q => ⟨(j2 q).1, (j2 q).2.1, by have := (j2 q).2.2.1; omega, (j2 q).2.2.2.1, by rw [q2.keep b8 (j2 q).2.2.1 (.inr ⟨(j2 q).2.2.2.1, fun e => j23 q (ready_after hi rfl 0 rfl rfl) e⟩)]; exact (j2 q).2.2.2.2⟩, fun _ => ⟨rfl, hb1, by have := bx.2.1; omega, bx.2.2.1, x2⟩, j23, j4, fun _ => ⟨ready_after hi rfl 1 rfl rfl, ready_after hi rfl 0 rfl rfl⟩, c0, c1, c2, c3⟩
 · intro l x a W' M' hs hJ hr
   obtain ⟨l0, l1, l2, l3, l4, l5, rfl⟩ := arr6b l hs
   obtain ⟨x15, x16, x8, x9, Td, Bk, b8, b9, rfl, r, m1, m2, j0, j1, j01, j2, j3, j23, j4, j5, c0, c1, c2, c3⟩ := hJ
   obtain rfl : l0 = true := ready_nil hr (i := 0) rfl (by simp) rfl
   obtain rfl : l1 = true := ready_nil hr (i := 1) rfl (by simp) rfl
   obtain rfl : l2 = true := ready_nil hr (i := 2) rfl (by simp) rfl
   obtain rfl : l3 = true := ready_nil hr (i := 3) rfl (by simp) rfl
   obtain rfl : l4 = true := ready_nil hr (i := 4) rfl (by simp) rfl
   obtain rfl : l5 = true := ready_nil hr (i := 5) rfl (by simp) rfl
   obtain ⟨rfl, k1, k2⟩ := j0 rfl
   obtain ⟨rfl, k3, k4⟩ := j1 rfl
   obtain ⟨rfl, k5⟩ := j2 rfl
   obtain ⟨rfl, k6⟩ := j3 rfl
   refine gw_region_end ?_
   exact h W' M' Td Bk b8 b9 x (c3 rfl rfl) r m1 (fun b q => ⟨(m2 b q).1, (m2 b q).2.1, (m2 b q).2.2.1 rfl, (m2 b q).2.2.2 rfl⟩) k1 k2 k3 k4 (j01 rfl rfl) k5 k6 (j23 rfl rfl)
end Go.Proofs.YtajnfkmkombajabDoor
namespace Go.Proofs.YtajnfkmkombajabDoor
open Go Go.Conc Go.ConcN Go.RowKit Go.Conc.Lib Go.ConcR.Gen Go.ConcN.Gen
open Go.ConcR (KK wgBlock WgAt stA smA)
structure FarmA (F : Farm Tryd.prog) (Wg Td Bk b8 b9 Bh : Nat) (fh : FuncId) (hc : Array Value) (Res : Nat → Value → Value → World → (Nat → Prop) → Prop) (S0 priv : Nat → Prop) (K J : World → Prop) (n : Nat) (b₀ : Frame) (a₀ : Act) (ops₀ : Array Oper) (i₀ : Nat) (rest₀ : List Nat) (k₀ : List Item) (cs : List Frame) : Prop where
 wg : F.Wg = Wg
 td : F.Td = Td
 bk : F.Bk = Bk
 many : F.many = n
 priv : F.priv = priv
 cf : CfLaw F fh hc Res S0 K J
 kS : ∀ W b, K W → S0 b → b < W.heap.size
 sel : SelLaw F
 head : ∀ S g W M, HeadA F b8 b9 Bh fh hc Res S g W M → F.Head S g W M
 atSel : ∀ Bo Be S nx rd got g W M, SelA F b8 b9 Bh fh hc Res S0 K J Bo Be n (b₀.at a₀ (.inRegion ops₀ (i₀ :: rest₀) :: k₀) :: cs) S nx rd got g W M → F.Sel S nx rd got g W M
 anch : ∀ S g w M, AnchW Tryd.prog wgL F S g w M → F.Anch S g w M
 ret : ∀ S g W M, RetA F b8 b9 Bh fh hc Res S0 K J n b₀ a₀ ops₀ i₀ rest₀ k₀ cs S g W M → F.Ret S g W M
def wgO : Obj := wgBlock 198 0 0
theorem cell_low {W : World} {b : Nat} {v : Value} (h : W.cell? ⟨b, 0, none⟩ = some v) : b < W.heap.size := by
 unfold World.cell? at h
 rcases Nat.lt_or_ge b W.heap.size with q | q
 · exact q
 · rw [Array.getElem?_eq_none q] at h; cases h
set_option maxRecDepth 100000 in
set_option maxHeartbeats 4000000 in
theorem restZ {F : Farm Tryd.prog} {Wg Td Bk b8 b9 Bh : Nat} {fh : FuncId} {hc : Array Value} {Res : Nat → Value → Value → World → (Nat → Prop) → Prop} {S0 priv : Nat → Prop} {K J : World → Prop} {n : Nat} {b₀ : Frame} {a₀ : Act} {ops₀ : Array Oper} {i₀ : Nat} {rest₀ : List Nat} {k₀ : List Item} {cs : List Frame}
   (FA : FarmA F Wg Td Bk b8 b9 Bh fh hc Res S0 priv K J n b₀ a₀ ops₀ i₀ rest₀ k₀ cs) (hn : 24 * n ≤ 140737488355328) {S M : Nat → Prop} {W : World} {w : Nat} {f2 : Value} (T : Array Value) (hT : T.size = 62) (hs : T[0]? = some (.int .i64 n) ∧ T[1]? = some (.int .i64 w) ∧ T[2]? = some (f2) ∧ T[5]? = some (.pointer (some ⟨Bh, 0, none⟩)) ∧ T[8]? = some (.pointer (some ⟨b8, 0, none⟩)) ∧ T[9]? = some (.pointer (some ⟨b9, 0, none⟩)) ∧ T[10]? = some (.pointer (some ⟨F.Wg, 0, none⟩))) (hC : Cf F b8 b9 Bh fh hc S0 K J S M W) :
   F.Go true S (F.Turn S 0 0 fun _ => False) (G ((base 138).at ⟨T, []⟩ [.code restC]) (b₀.at a₀ (.inRegion ops₀ (i₀ :: rest₀) :: k₀) :: cs)) W M := by
 have hn63 : n < 9223372036854775807 := by omega
 obtain ⟨v0, v1, v2, v3, v4, v5, v6, v7, v8, v9, v10, v11, v12, v13, v14, v15, v16, v17, v18, v19, v20, v21, v22, v23, v24, v25, v26, v27, v28, v29, v30, v31, v32, v33, v34, v35, v36, v37, v38, v39, v40, v41, v42, v43, v44, v45, v46, v47, v48, v49, v50, v51, v52, v53, v54, v55, v56, v57, v58, v59, v60, v61, rfl⟩ := arr62 T hT
 simp only [List.getElem?_toArray, List.getElem?_cons_zero, List.getElem?_cons_succ, Option.some.injEq] at hs
 obtain ⟨rfl, rfl, rfl, rfl, rfl, rfl, rfl⟩ := hs
 simp only [restC, bodyC, Tryd.f138, Option.getD_some]
 refine gw_seq ?_
 refine reg7 (rid := 7) hn (fun W' M' Bo Be x23 x24 x25 x26 r m1 m2 fo fe ne => ?_)
 have low : ∀ b, S0 b ∨ b = b8 ∨ b = b9 ∨ b = Bh → b < W.heap.size := fun b q => by
   rcases q with q | rfl | rfl | rfl
   · exact FA.kS W b hC.k q
   · exact cell_low hC.c8
   · exact cell_low hC.c9
   · exact cell_low hC.ch
 obtain ⟨e1, e2, e3, ro, e4, e5⟩ := fo
 obtain ⟨d1, d2, d3, re, d4, d5⟩ := fe
 have hl : Lf F b8 b9 Bh fh hc Res S0 K J Bo Be n (fun _ => False) S M' W' :=
   ⟨(hC.rely FA.cf r).more m1 ⟨fun q => (m2 _ q).elim hC.nW.2.1 fun q => by have := hC.nW.2.2; omega, fun q => (m2 _ q).elim hC.nT.2.1 fun q => by have := hC.nT.2.2; omega⟩, e3, d3, ne, e2, d2, ⟨fun q => by have := hC.prl _ q; omega, fun q => by have := hC.prl _ q; omega⟩, fun b q => by have := low b q; exact ⟨by omega, by omega⟩, ro, re, e4, d4, e5, d5, fun i q => q.elim⟩
 refine gw_seq ?_
 refine gw_seq ?_
 refine gw_region ?_
 simp only [List.size_toArray, List.length_cons, List.length_nil, Nat.reduceAdd, Nat.zero_add, List.range, List.range.loop]
 refine gw_val (v := .int .i64 0) rfl rfl (by k_ne) (fun w => by kernel_rfl) (fun w => by kernel_rfl) ?_
 refine gw_val (v := .int .i64 0) rfl rfl (by k_ne) (fun w => by kernel_rfl) (fun w => by kernel_rfl) ?_
 refine gw_region_end ?_
 refine gw_block ?_
 refine gw_loop ?_
 exact turnA FA.cf hn63 (FA.atSel Bo Be) FA.many 0 0 (Nat.zero_le _) (Nat.zero_le _) (fun e k hk => by omega) _ rfl ⟨rfl, rfl, rfl, rfl, rfl, rfl, rfl, rfl⟩ hl (fun T W1 hT hs hl => closeA FA.cf FA.anch FA.ret T hT hs hl)
def Stop2 (mk : Nat → Nat → Nat → Nat → Nat → Nat → Farm Tryd.prog) (w : Nat) (S : Nat → Prop) (B B' : Nat) : Goroutine → World → (Nat → Prop) → Prop :=
 AtMake Tryd.prog wgO fun Wg g W M => ∃ Td Bk b8 b9 Bh, ((Td = B ∧ Bk = B') ∨ (Td = B' ∧ Bk = B)) ∧ (mk Wg Td Bk b8 b9 Bh).Starts w S g W M
noncomputable def restB : Code := match bodyC with | .seq _ (.seq _ c) => c | _ => .skip
theorem stepG_made {P : Program} {mn : Bool} {a : Act} {b : Frame} {k : List Item} {cs : List Frame} {ops : Array Oper} {i : Nat} {rest : List Nat} {o : Oper} {v : Value} {ob : Obj} {w : World} (ho : ops[i]? = some o) (hw : Region.wanted o (yielded ops a.tmps) = true) (hk : b.kind ≠ .early) (hr : (execOp a.eval o).run P w = .ok (.value v) (w.alloc ob)) (he : (execOp a.eval o).events P w #[] = #[]) :
   stepG P mn (G (b.at a (.inRegion ops (i :: rest) :: k)) cs) w = .go (G (b.at (a.put o.dst v) (.inRegion ops rest :: k)) cs) (w.alloc ob) #[] := by
 rw [stepG_value ho hw hk hr, listed, he, seen_none]
set_option maxRecDepth 100000 in
set_option maxHeartbeats 4000000 in
theorem restA {I' : World → Prop} {mk : Nat → Nat → Nat → Nat → Nat → Nat → Farm Tryd.prog} {fh : FuncId} {hc : Array Value} {Res : Nat → Nat → Nat → Value → Value → World → (Nat → Prop) → Prop} {S0 priv : Nat → Prop} {K J : World → Prop} {n w : Nat} {S M : Nat → Prop} {W : World}
   {b₀ : Frame} {a₀ : Act} {ops₀ : Array Oper} {i₀ : Nat} {rest₀ : List Nat} {k₀ : List Item} {cs : List Frame} {B B' Td Bk b8 b9 Bh : Nat} {f2 v3 v4 v6 v7 v10 v11 v12 v13 v14 v15 v16 v17 v18 v19 v20 v21 v22 v23 v24 v25 v26 v27 v28 v29 v30 v31 v32 v33 v34 v35 v36 v37 v38 v39 v40 v41 v42 v43 v44 v45 v46 v47 v48 v49 v50 v51 v52 v53 v54 v55 v56 v57 v58 v59 v60 v61 : Value}
   (hF : ∀ Wg Td Bk b8 b9 Bh, FarmA (mk Wg Td Bk b8 b9 Bh) Wg Td Bk b8 b9 Bh fh hc (Res Wg Td) S0 priv K J n b₀ a₀ ops₀ i₀ rest₀ k₀ cs)
   (hn : 24 * n ≤ 140737488355328) (hw : w < 9223372036854775807) (hrel : (Td = B ∧ Bk = B') ∨ (Td = B' ∧ Bk = B))
   (hC : ∀ Wg W3, RelyS S M W W3 → W.heap.size ≤ Wg → Wg < W3.heap.size → Cf (mk Wg Td Bk b8 b9 Bh) b8 b9 Bh fh hc S0 K J S M W3) :
   GoesW Tryd.prog true I' S (Stop2 mk w S B B') (G ((base 138).at ⟨(List.toArray (.int .i64 n :: .int .i64 w :: f2 :: v3 :: v4 :: .pointer (some ⟨Bh, 0, none⟩) :: v6 :: v7 :: .pointer (some ⟨b8, 0, none⟩) :: .pointer (some ⟨b9, 0, none⟩) :: v10 :: v11 :: v12 :: v13 :: v14 :: v15 :: v16 :: v17 :: v18 :: v19 :: v20 :: v21 :: v22 :: v23 :: v24 :: v25 :: v26 :: v27 :: v28 :: v29 :: v30 :: v31 :: v32 :: v33 :: v34 :: v35 :: v36 :: v37 :: v38 :: v39 :: v40 :: v41 :: v42 :: v43 :: v44 :: v45 :: v46 :: v47 :: v48 :: v49 :: v50 :: v51 :: v52 :: v53 :: v54 :: v55 :: v56 :: v57 :: v58 :: v59 :: v60 :: v61 :: [])), []⟩ [.code restB]) (b₀.at a₀ (.inRegion ops₀ (i₀ :: rest₀) :: k₀) :: cs)) W M := by
 simp only [restB, bodyC, Tryd.f138, Option.getD_some]
 refine gw_seq ?_
 refine gw_region ?_
 simp only [List.size_toArray, List.length_cons, List.length_nil, Nat.reduceAdd, Nat.zero_add, List.range, List.range.loop]
 refine GoesW.stop fun W3 r3 _ => ⟨rfl, _, _, stepG_made (ob := wgO) (v := .pointer (some ⟨W3.heap.size, 0, none⟩)) rfl rfl (by k_ne) (by go_simp; rfl) (by go_simp), rfl, Td, Bk, b8, b9, Bh, hrel, starts_go.mpr ?_⟩
 have FA := hF W3.heap.size Td Bk b8 b9 Bh
 have c := hC W3.heap.size (W3.alloc wgO) (rely_push r3) r3.size (by rw [alloc_size]; omega)
 refine gw_region_end ?_
 refine gw_seq ?_
 refine gw_seq ?_
 refine gw_region ?_
 simp only [List.size_toArray, List.length_cons, List.length_nil, Nat.reduceAdd, Nat.zero_add, List.range, List.range.loop]
 refine gw_val (v := .int .i64 w) rfl rfl (by k_ne) (fun w => by kernel_rfl) (fun w => by kernel_rfl) ?_
 refine gw_val (v := .int .i64 0) rfl rfl (by k_ne) (fun w => by kernel_rfl) (fun w => by kernel_rfl) ?_
 refine gw_region_end ?_
 refine gw_block ?_
 refine gw_loop ?_
 exact starts_go.mp (allStarts FA.cf FA.head hw (fun S M W T hT hs hC => restZ FA hn T hT hs hC) w 0 S M _ _ (by omega) rfl ⟨⟨rfl, rfl, rfl, rfl, rfl, rfl, (by rw [FA.wg]; rfl)⟩, rfl, rfl⟩ c)
set_option maxRecDepth 100000 in
set_option maxHeartbeats 4000000 in
theorem enterA {I : World → Prop} {mk : Nat → Nat → Nat → Nat → Nat → Nat → Farm Tryd.prog} {fh : FuncId} {hc : Array Value} {Res : Nat → Nat → Nat → Value → Value → World → (Nat → Prop) → Prop} {S0 priv : Nat → Prop} {K J : World → Prop} {n w : Nat} {S M : Nat → Prop} {W : World}
   {b₀ : Frame} {a₀ : Act} {ops₀ : Array Oper} {i₀ : Nat} {rest₀ : List Nat} {k₀ : List Item} {cs : List Frame}
   (hF : ∀ Wg Td Bk b8 b9 Bh, FarmA (mk Wg Td Bk b8 b9 Bh) Wg Td Bk b8 b9 Bh fh hc (Res Wg Td) S0 priv K J n b₀ a₀ ops₀ i₀ rest₀ k₀ cs)
   (hn : 24 * n ≤ 140737488355328) (hw : w < 9223372036854775807) (hM : ∀ b, M b → b < W.heap.size) (hp : ∀ b, priv b → M b) (hS : ∀ b, S b → b < W.heap.size) (hS0 : ∀ b, S0 b → S b ∨ (M b ∧ ¬ priv b)) (hK : K W) (hJ : J W) (hcl : (Value.func (.func fh) #[] hc).oneCell' = true) :
   Stg I S (Stop2 mk w S) [] (G (Frame.enter Tryd.prog 138 #[.int .i64 n, .int .i64 w, .func (.func fh) #[] hc] .normal) (b₀.at a₀ (.inRegion ops₀ (i₀ :: rest₀) :: k₀) :: cs)) W M := by
 rw [enter_at (fn := Tryd.f138) (c := bodyC) _ Tryd.func138 rfl]
 generalize hrg : rg1 = r1g
 generalize hlp : lp1 = lq
 generalize hrs : restC = rc
 unfold Stg
 simp only [bodyC, Tryd.f138, Option.getD_some]
 walk_nrm
 repeat (first
   | refine gw_seq ?_
   | refine gw_skip ?_
   | refine gw_block ?_
   | refine gw_loop ?_
   | refine gw_inLoop ?_
   | refine gw_inBlock ?_
   | refine gw_region_end ?_
   | refine gw_label ?_
   | refine gw_ret ?_
   | (refine gw_region ?_; simp only [List.size_toArray, List.length_cons, List.length_nil, Nat.reduceAdd, Nat.zero_add, List.range, List.range.loop])
   | refine gw_exit rfl ?_
   | refine gw_yes rfl ?_
   | refine gw_no rfl ?_)
 refine gw_push (v := fun B => .pointer (some ⟨B, 0, none⟩)) (ob := .cells #[.func (.func fh) #[] hc] 166 (0, 0)) rfl rfl (by k_ne) (fun w _ _ => by go_simp) (fun w _ _ e he => by have hm := mem_listed he; simp [go_sem] at hm) (fun W1 Bh q1 l1 g1 x1 => ?_)
 walk_nrm
 repeat (first
   | refine gw_seq ?_
   | refine gw_skip ?_
   | refine gw_block ?_
   | refine gw_loop ?_
   | refine gw_inLoop ?_
   | refine gw_inBlock ?_
   | refine gw_region_end ?_
   | refine gw_label ?_
   | refine gw_ret ?_
   | (refine gw_region ?_; simp only [List.size_toArray, List.length_cons, List.length_nil, Nat.reduceAdd, Nat.zero_add, List.range, List.range.loop])
   | refine gw_exit rfl ?_
   | refine gw_yes rfl ?_
   | refine gw_no rfl ?_
   | (refine gw_op rfl rfl (by k_ne) (fun wq rq iq Kq hKq => ?_)
      go_simp
      refine hKq _ ?_ ?_
      · intro eq heq
        have hmq := mem_listed heq
        simp [go_sem, *] at hmq
      clear hKq Kq rq iq wq
      try w_num)
   | (refine gw_unwanted rfl rfl ?_; walk_nrm)
   | (refine gw_defer rfl rfl (by k_ne) rfl ?_; walk_nrm))
 have z1 := q1.size
 refine reg1 (rid := 1) (fun b q => q.elim (fun q => Nat.lt_of_lt_of_le (hM b q) z1) fun q => q ▸ g1) (fun W2 M2 Td Bk b8 b9 x hx q2 m1 m2 t1 t2 t3 t4 t5 bx8 bx9 b89 => ?_)
 have z2 := q2.size
 have hC : ∀ Wg W3, RelyS S M2 W2 W3 → W2.heap.size ≤ Wg → Wg < W3.heap.size → Cf (mk Wg Td Bk b8 b9 Bh) b8 b9 Bh fh hc S0 K J S M2 W3 := by
   intro Wg W3 q3 y1 y2
   have FA := hF Wg Td Bk b8 b9 Bh
   have z3 := q3.size
   have k8 : ¬ priv b8 := fun q => by have := hM _ (hp _ q); have := bx8.1; omega
   have k9 : ¬ priv b9 := fun q => by have := hM _ (hp _ q); have := bx9.1; omega
   have kh : ¬ priv Bh := fun q => by have := hM _ (hp _ q); omega
   have r03 : RelyS S M W W3 := (q1.trans (q2.mono fun b q => q.imp (fun q => q) .inl)).trans (q3.mono fun b q => q.imp (fun q => q) fun q => m1 _ (.inl q))
   have pub : ∀ b, M2 b → ¬ priv b → (mk Wg Td Bk b8 b9 Bh).pub S M2 b := fun b q1 q2 => .inr ⟨q1, by rw [FA.priv]; exact q2⟩
   refine ⟨by rw [FA.wg]; exact ⟨fun q => by have := hS _ q; omega, fun q => by have := (m2 _ q).1; omega, y2⟩, by rw [FA.td]; exact ⟨fun q => by have := hS _ q; omega, fun q => (m2 _ q).2.2.1 rfl, by omega⟩, pub _ bx8.2.2.1 k8, pub _ bx9.2.2.1 k9, pub _ (m1 _ (.inr rfl)) kh, ?_, ?_, ?_, fun b q => ?_, fun b q => ?_, fun b q => ?_, ?_, ?_⟩
   · rw [FA.td]; exact cell_rely q3 (.inr bx8.2.2.1) (by unfold World.cell?; rw [bx8.2.2.2]; rfl)
   · rw [FA.bk]; exact cell_rely q3 (.inr bx9.2.2.1) (by unfold World.cell?; rw [bx9.2.2.2]; rfl)
   · refine cell_rely q3 (.inr (m1 _ (.inr rfl))) (cell_rely q2 (.inr (.inr rfl)) ?_)
     unfold World.cell?; rw [x1]; rfl
   · rw [FA.priv] at q; have := hM _ (hp _ q); omega
   · rw [FA.priv] at q; exact m1 _ (.inl (hp _ q))
   · exact (hS0 b q).elim .inl fun q => pub b (m1 _ (.inl q.1)) q.2
   · refine FA.cf.hk _ _ (r03.mono fun b q => q.elim (fun q => (hS0 b q).imp (fun q => q) And.left) fun q => .inr (hp _ (by rw [FA.priv] at q; exact q))) hK
   · exact FA.cf.hj _ _ (r03.mono fun b q => q.elim (fun q => (hS0 b q).imp (fun q => q) And.left) False.elim) hJ
 rcases hx with rfl | rfl
 · exact restA hF hn hw (.inl ⟨rfl, rfl⟩) hC
 · exact restA hF hn hw (.inr ⟨rfl, rfl⟩) hC
end Go.Proofs.YtajnfkmkombajabDoor
