/-
  The document's stakes in memory: another pool for what waits; one more that waits.
  The document's stakes in memory: what Leave writes.
-/
import Derived.Test.YtajnfkmkombajaaGreatDoorQSP26
set_option linter.unusedVariables false
set_option linter.unusedSimpArgs false
set_option linter.unusedVariables false
namespace Go.Proofs.YtajnfkmkombajaaGreatDoor
open Go.RowKit Go.Maps
theorem SS.setW_at {s : SS} (h : s.Ok) {k c : Int} {i : Nat} {x : WP} (hx : s.W[i]? = some x) (hf : s.find k c = some x.q) (hb : x.b = k) (hc : x.c = c) (q : QS) : (s.setW k c q) = ⟨s.P, s.W.set i ⟨x.b, x.c, q⟩⟩ := by
 unfold SS.setW
 rw [if_pos (by rw [hf]; rfl)]
 congr 1
 apply List.ext_getElem?
 intro j
 rw [List.getElem?_map, List.getElem?_set]
 have hi := (List.getElem?_eq_some_iff.1 hx).1
 by_cases e : i = j
 · subst e
   rw [if_pos rfl, if_pos hi, hx]
   simp only [Option.map_some]
   unfold WP.put; rw [if_pos (WP.at_iff.2 ⟨hb, hc⟩)]
 · rw [if_neg e]
   cases hj : s.W[j]? with
   | none => rfl
   | some y =>
     simp only [Option.map_some]
     unfold WP.put
     rw [if_neg]
     intro ha
     obtain ⟨a1, a2⟩ := WP.at_iff.1 ha
     have hp := h.apart
     rw [List.pairwise_iff_getElem] at hp
     have hjl := (List.getElem?_eq_some_iff.1 hj).1
     have ei : s.W[i] = x := by rw [List.getElem?_eq_getElem hi] at hx; exact Option.some.inj hx
     have ej : s.W[j] = y := by rw [List.getElem?_eq_getElem hjl] at hj; exact Option.some.inj hj
     rcases Nat.lt_or_ge i j with hlt | hge
     · have := hp i j hi hjl hlt; rw [ei, ej] at this; exact this ⟨by rw [hb, a1], by rw [hc, a2]⟩
     · have := hp j i hjl hi (by omega); rw [ei, ej] at this; exact this ⟨by rw [hb, a1], by rw [hc, a2]⟩
theorem SS.setW_new {s : SS} {k c : Int} (hf : s.find k c = none) (q : QS) : (s.setW k c q) = ⟨s.P, s.W ++ [⟨k, c, q⟩]⟩ := by
 unfold SS.setW; rw [if_neg (by rw [hf]; simp)]
theorem SS.rget_set {s : SS} {i : Nat} (hi : i < s.W.length) (y : WP) (j : Nat) : (SS.mk s.P (s.W.set i y)).rget j = if j = i + 3 then some y.q else s.rget j := by
 unfold SS.rget
 by_cases h3 : j < 3
 · rw [if_pos h3, if_pos h3, if_neg (by omega)]
 · rw [if_neg h3, if_neg h3]
   simp only [List.getElem?_set]
   by_cases e : j = i + 3
   · rw [if_pos e, if_pos (by omega), if_pos hi]; rfl
   · rw [if_neg e, if_neg (by omega)]
theorem SS.rget_snoc {s : SS} (y : WP) (j : Nat) : (SS.mk s.P (s.W ++ [y])).rget j = if j = s.W.length + 3 then some y.q else s.rget j := by
 unfold SS.rget
 by_cases h3 : j < 3
 · rw [if_pos h3, if_pos h3, if_neg (by omega)]
 · rw [if_neg h3, if_neg h3]
   simp only
   by_cases e : j = s.W.length + 3
   · rw [if_pos e, e, Nat.add_sub_cancel, List.getElem?_append_right (Nat.le_refl _), Nat.sub_self]; rfl
   · rw [if_neg e]
     by_cases hl : j - 3 < s.W.length
     · rw [List.getElem?_append_left hl]
     · rw [List.getElem?_eq_none (by simp; omega), List.getElem?_eq_none (by omega)]
theorem rptr_low {s s' : SS} {L L' : RLay} {j : Nat} (hr : s'.rget j = s.rget j) (hp : L'.pb j = L.pb j) : rptr s' L' j = rptr s L j := by
 unfold rptr; rw [hr, hp]
theorem set_same {l : List Value} {i : Nat} {u : Value} (h : l[i]? = some u) : l.set i u = l := by
 apply List.ext_getElem?
 intro j
 rw [List.getElem?_set]
 by_cases e : i = j
 · subst e
   rw [if_pos rfl, if_pos (List.getElem?_eq_some_iff.1 h).1, h]
 · rw [if_neg e]
theorem RStL.waitPut {sb : Nat} {L : RLay} {wv : Value} {s : SS} {w : World} (h : RStL sb L wv s w) {i g b c m : Nat} {x : WP} {q' : QS} (hx : s.W[i]? = some x) (hp : RPoolAt b c m q' w) (hb : L.role b = .none) (hc : L.role c = .none) (hg : wv.ownBlock = some g) (hok : SS.Ok ⟨s.P, s.W.set i ⟨x.b, x.c, q'⟩⟩) :
   RStL sb (L.put (i + 3) b c m) wv ⟨s.P, s.W.set i ⟨x.b, x.c, q'⟩⟩ (((w.setCell ⟨g, i * 3, none⟩ (.int .i64 x.b)).setCell ⟨g, i * 3 + 1, none⟩ (.int .i64 x.c)).setCell ⟨g, i * 3 + 2, none⟩ (.pointer (some ⟨b, 0, none⟩))) := by
 have hil := (List.getElem?_eq_some_iff.1 hx).1
 have rg := h.rwai g hg
 have K : Keep (· = g) w (((w.setCell ⟨g, i * 3, none⟩ (.int .i64 x.b)).setCell ⟨g, i * 3 + 1, none⟩ (.int .i64 x.c)).setCell ⟨g, i * 3 + 2, none⟩ (.pointer (some ⟨b, 0, none⟩))) := (((Keep.refl _ _).put _).put _).put _
 have hne : ∀ y, L.role y ≠ .wrow → ¬ y = g := fun y hy e => hy (by rw [e]; exact rg)
 have hr := SS.rget_set (s := s) hil ⟨x.b, x.c, q'⟩
 have pbo : ∀ j, j ≠ i + 3 → (L.put (i + 3) b c m).pb j = L.pb j := fun j hj => if_neg hj
 refine ⟨hok, h.top.keep K (hne _ (by rw [h.rtop]; simp)), ?_, ?_, ?_, ?_, ?_, ?_⟩
 · rw [RLay.put_role hb hc (by rw [h.rtop]; simp) (by rw [h.rtop]; simp) (by rw [h.rtop]; simp)]; exact h.rtop
 · rw [rptr_low (s := s) (L := L) (by rw [hr, if_neg (by omega)]) (pbo 0 (by omega)), rptr_low (s := s) (L := L) (by rw [hr, if_neg (by omega)]) (pbo 1 (by omega)), rptr_low (s := s) (L := L) (by rw [hr, if_neg (by omega)]) (pbo 2 (by omega))]
   exact h.row.keep K (hne _ (by rw [h.rrow]; simp))
 · show (L.put (i + 3) b c m).role L.g = .row
   rw [RLay.put_role hb hc (by rw [h.rrow]; simp) (by rw [h.rrow]; simp) (by rw [h.rrow]; simp)]; exact h.rrow
 · have hlen : (waitsE L s.W).length = s.W.length * 3 := by have := h.wai.1; exact this
   have o1 := ownsRow_set h.wai hg (i := i * 3) (by rw [hlen]; omega) (.int .i64 x.b)
   have o2 := ownsRow_set o1 hg (i := i * 3 + 1) (by rw [List.length_set, hlen]; omega) (.int .i64 x.c)
   have o3 := ownsRow_set o2 hg (i := i * 3 + 2) (by rw [List.length_set, List.length_set, hlen]; omega) (.pointer (some ⟨b, 0, none⟩))
   have hz := zip_get hx
   have g0 := flatMap_get (enc := waitE L) (C := 3) (fun _ => rfl) s.W.zipIdx i (x, i) hz 0 (by decide)
   have g1 := flatMap_get (enc := waitE L) (C := 3) (fun _ => rfl) s.W.zipIdx i (x, i) hz 1 (by decide)
   have e0 : (waitsE L s.W).set (i * 3) (.int .i64 x.b) = waitsE L s.W := by
     exact set_same g0
   have e1 : (waitsE L s.W).set (i * 3 + 1) (.int .i64 x.c) = waitsE L s.W := by
     exact set_same g1
   rw [e0, e1] at o3
   have e2 : (waitsE L s.W).set (i * 3 + 2) (.pointer (some ⟨b, 0, none⟩)) = waitsE (L.put (i + 3) b c m) (s.W.set i ⟨x.b, x.c, q'⟩) := by
     have f1 := flatMap_set (enc := waitE L) (enc' := waitE (L.put (i + 3) b c m)) (C := 3) (fun _ => rfl) s.W.zipIdx i 2 (.pointer (some ⟨b, 0, none⟩)) (x, i) (by decide) hz
       (by unfold waitE; have : (L.put (i + 3) b c m).pb (i + 3) = b := if_pos rfl
           simp only [this]; rfl)
       (fun j y hj hy => by
         have hyj : y.2 = j := by
           rw [List.getElem?_zipIdx] at hy
           obtain ⟨z, -, rfl⟩ := Option.map_eq_some_iff.1 hy
           simp
         unfold waitE; rw [pbo (y.2 + 3) (by omega)])
     unfold waitsE
     rw [f1]
     have hs := waitsE_same (L.put (i + 3) b c m) s.W (s.W.set i ⟨x.b, x.c, q'⟩) 0 (set_bc hx q').symm
     exact hs
   rw [e2] at o3
   rw [List.length_set]
   exact o3
 · intro g' hg'
   have := h.rwai g' hg'
   rw [RLay.put_role hb hc (by rw [this]; simp) (by rw [this]; simp) (by rw [this]; simp)]; exact this
 · intro j q2 hq2
   rw [hr j] at hq2
   by_cases hj : j = i + 3
   · subst hj
     rw [if_pos rfl] at hq2
     obtain rfl := Option.some.inj hq2
     have e1 : (L.put (i + 3) b c m).pb (i + 3) = b := if_pos rfl
     have e2 : (L.put (i + 3) b c m).ps (i + 3) = c := if_pos rfl
     have e3 : (L.put (i + 3) b c m).pc (i + 3) = m := if_pos rfl
     rw [e1, e2, e3]
     refine ⟨hp.keep K (hne _ (by rw [hb]; simp)) (hne _ (by rw [hc]; simp)), if_pos rfl, ?_⟩
     show (if c = b then RRole.bp (i + 3) else if c = c then RRole.bs (i + 3) else _) = _
     rw [if_neg (fun e => hp.ne e.symm), if_pos rfl]
   · rw [if_neg hj] at hq2
     obtain ⟨p1, p2, p3⟩ := h.poo j q2 hq2
     have e1 : (L.put (i + 3) b c m).pb j = L.pb j := if_neg hj
     have e2 : (L.put (i + 3) b c m).ps j = L.ps j := if_neg hj
     have e3 : (L.put (i + 3) b c m).pc j = L.pc j := if_neg hj
     rw [e1, e2, e3]
     refine ⟨p1.keep K (hne _ (by rw [p2]; simp)) (hne _ (by rw [p3]; simp)), ?_, ?_⟩
     · rw [RLay.put_role hb hc (by rw [p2]; simp) (by rw [p2]; simpa using hj) (by rw [p2]; simp)]; exact p2
     · rw [RLay.put_role hb hc (by rw [p3]; simp) (by rw [p3]; simp) (by rw [p3]; simpa using hj)]; exact p3
def RLay.add (L : RLay) (j b c m g : Nat) : RLay :=
 ⟨fun x => if x = b then .bp j else if x = c then .bs j else if x = g then .wrow else if L.role x = .wrow ∨ L.role x = .bp j ∨ L.role x = .bs j then .none else L.role x, L.g, fun i => if i = j then b else L.pb i, fun i => if i = j then c else L.ps i, fun i => if i = j then m else L.pc i⟩
theorem RLay.add_role {L : RLay} {j b c m g x : Nat} (hb : x ≠ b) (hc : x ≠ c) (hg : x ≠ g) (h0 : L.role x ≠ .wrow) (h1 : L.role x ≠ .bp j) (h2 : L.role x ≠ .bs j) : (L.add j b c m g).role x = L.role x := by
 show (if x = b then RRole.bp j else if x = c then RRole.bs j else if x = g then RRole.wrow else if L.role x = .wrow ∨ L.role x = .bp j ∨ L.role x = .bs j then RRole.none else L.role x) = _
 rw [if_neg hb, if_neg hc, if_neg hg, if_neg (fun e => e.elim h0 (fun e => e.elim h1 h2))]
theorem RLay.add_some {L : RLay} {j b c m g x : Nat} (h : (L.add j b c m g).role x ≠ .none) : x = b ∨ x = c ∨ x = g ∨ L.role x ≠ .none := by
 by_cases hb : x = b
 · exact .inl hb
 · by_cases hc : x = c
   · exact .inr (.inl hc)
   · by_cases hg : x = g
     · exact .inr (.inr (.inl hg))
     · refine .inr (.inr (.inr fun e => h ?_))
       show (if x = b then RRole.bp j else if x = c then RRole.bs j else if x = g then RRole.wrow else if L.role x = .wrow ∨ L.role x = .bp j ∨ L.role x = .bs j then RRole.none else L.role x) = _
       rw [if_neg hb, if_neg hc, if_neg hg]; split
       · rfl
       · exact e
theorem RStL.waitAdd {sb : Nat} {L : RLay} {wv wv' : Value} {s : SS} {w w' : World} (h : RStL sb L wv s w) {g b c m : Nat} {k cy : Int} {q' : QS} (hok : SS.Ok ⟨s.P, s.W ++ [⟨k, cy, q'⟩]⟩)
   (K : Keep (fun y => y = sb ∨ L.role y = .wrow) w w') (ht : RowAt sb 85 [.slice (some ⟨L.g, 0, none⟩) 3 3, wv'] w') (hg : wv'.ownBlock = some g) (hgn : L.role g = .wrow ∨ L.role g = .none)
   (hw : w'.ownsRow 0 91 3 wv' (s.W.length + 1) (waitsE L s.W ++ [.int .i64 k, .int .i64 cy, .pointer (some ⟨b, 0, none⟩)]))
   (hp : RPoolAt b c m q' w') (hb : L.role b = .none) (hc : L.role c = .none) (hbg : b ≠ g) (hcg : c ≠ g) :
   RStL sb (L.add (s.W.length + 3) b c m g) wv' ⟨s.P, s.W ++ [⟨k, cy, q'⟩]⟩ w' := by
 have hr := SS.rget_snoc (s := s) ⟨k, cy, q'⟩
 have pbo : ∀ j, j ≠ s.W.length + 3 → (L.add (s.W.length + 3) b c m g).pb j = L.pb j := fun j hj => if_neg hj
 have hne : ∀ y r, L.role y = r → r ≠ .none → y ≠ b ∧ y ≠ c := fun y r hy hr => ⟨fun e => hr (by rw [← hy, e, hb]), fun e => hr (by rw [← hy, e, hc])⟩
 have hng : ∀ y r, L.role y = r → r ≠ .none → r ≠ .wrow → y ≠ g := fun y r hy h0 h1 e => by
   subst e
   rcases hgn with e | e
   · exact h1 (by rw [← hy, e])
   · exact h0 (by rw [← hy, e])
 have keepN : ∀ y r, L.role y = r → r ≠ .wrow → r ≠ .top → ¬ (y = sb ∨ L.role y = .wrow) := fun y r hy h1 h2 e => by
   rcases e with e | e
   · subst e; rw [h.rtop] at hy; exact h2 hy.symm
   · rw [hy] at e; exact h1 e
 have nob : s.rget (s.W.length + 3) = none := by rw [SS.rget_wait, List.getElem?_eq_none (Nat.le_refl _)]; rfl
 refine ⟨hok, ht, ?_, ?_, ?_, ?_, ?_, ?_⟩
 · rw [RLay.add_role (hne _ _ h.rtop (by simp)).1 (hne _ _ h.rtop (by simp)).2 (hng _ _ h.rtop (by simp) (by simp)) (by rw [h.rtop]; simp) (by rw [h.rtop]; simp) (by rw [h.rtop]; simp)]; exact h.rtop
 · rw [rptr_low (s := s) (L := L) (by rw [hr, if_neg (by omega)]) (pbo 0 (by omega)), rptr_low (s := s) (L := L) (by rw [hr, if_neg (by omega)]) (pbo 1 (by omega)), rptr_low (s := s) (L := L) (by rw [hr, if_neg (by omega)]) (pbo 2 (by omega))]
   exact h.row.keep K (keepN _ _ h.rrow (by simp) (by simp))
 · show (L.add (s.W.length + 3) b c m g).role L.g = .row
   rw [RLay.add_role (hne _ _ h.rrow (by simp)).1 (hne _ _ h.rrow (by simp)).2 (hng _ _ h.rrow (by simp) (by simp)) (by rw [h.rrow]; simp) (by rw [h.rrow]; simp) (by rw [h.rrow]; simp)]; exact h.rrow
 · have e : waitsE (L.add (s.W.length + 3) b c m g) (s.W ++ [⟨k, cy, q'⟩]) = waitsE L s.W ++ [.int .i64 k, .int .i64 cy, .pointer (some ⟨b, 0, none⟩)] := by
     have f : ∀ (l : List WP) (n : Nat), n + l.length ≤ s.W.length → (l.zipIdx n).flatMap (waitE (L.add (s.W.length + 3) b c m g)) = (l.zipIdx n).flatMap (waitE L) := by
       intro l
       induction l with
       | nil => intro n _; rfl
       | cons y l ih =>
         intro n hn
         simp only [List.length_cons] at hn
         rw [List.zipIdx_cons, List.flatMap_cons, List.flatMap_cons, ih (n + 1) (by omega)]
         congr 1
         unfold waitE
         rw [pbo (n + 3) (by omega)]
     unfold waitsE
     rw [List.zipIdx_append, List.flatMap_append, f s.W 0 (by omega)]
     congr 1
     have : (L.add (s.W.length + 3) b c m g).pb (s.W.length + 3) = b := if_pos rfl
     simp [waitE, this]
   rw [e, List.length_append]
   exact hw
 · intro g' hg'
   have : g' = g := by rw [hg] at hg'; exact (Option.some.inj hg').symm
   subst this
   show (if g' = b then RRole.bp _ else if g' = c then RRole.bs _ else if g' = g' then RRole.wrow else _) = _
   rw [if_neg (fun e => hbg e.symm), if_neg (fun e => hcg e.symm), if_pos rfl]
 · intro j q2 hq2
   rw [hr j] at hq2
   by_cases hj : j = s.W.length + 3
   · subst hj
     rw [if_pos rfl] at hq2
     obtain rfl := Option.some.inj hq2
     have e1 : (L.add (s.W.length + 3) b c m g).pb (s.W.length + 3) = b := if_pos rfl
     have e2 : (L.add (s.W.length + 3) b c m g).ps (s.W.length + 3) = c := if_pos rfl
     have e3 : (L.add (s.W.length + 3) b c m g).pc (s.W.length + 3) = m := if_pos rfl
     rw [e1, e2, e3]
     refine ⟨hp, if_pos rfl, ?_⟩
     show (if c = b then RRole.bp _ else if c = c then RRole.bs _ else _) = _
     rw [if_neg (fun e => hp.ne e.symm), if_pos rfl]
   · rw [if_neg hj] at hq2
     obtain ⟨p1, p2, p3⟩ := h.poo j q2 hq2
     have e1 : (L.add (s.W.length + 3) b c m g).pb j = L.pb j := if_neg hj
     have e2 : (L.add (s.W.length + 3) b c m g).ps j = L.ps j := if_neg hj
     have e3 : (L.add (s.W.length + 3) b c m g).pc j = L.pc j := if_neg hj
     rw [e1, e2, e3]
     refine ⟨p1.keep K (keepN _ _ p2 (by simp) (by simp)) (keepN _ _ p3 (by simp) (by simp)), ?_, ?_⟩
     · rw [RLay.add_role (hne _ _ p2 (by simp)).1 (hne _ _ p2 (by simp)).2 (hng _ _ p2 (by simp) (by simp)) (by rw [p2]; simp) (by rw [p2]; simpa using hj) (by rw [p2]; simp)]; exact p2
     · rw [RLay.add_role (hne _ _ p3 (by simp)).1 (hne _ _ p3 (by simp)).2 (hng _ _ p3 (by simp) (by simp)) (by rw [p3]; simp) (by rw [p3]; simp) (by rw [p3]; simpa using hj)]; exact p3
end Go.Proofs.YtajnfkmkombajaaGreatDoor
namespace Go.Proofs.YtajnfkmkombajaaGreatDoor
open Go.RowKit Go.Maps
theorem RStL.fresh {sb : Nat} {L : RLay} {wv : Value} {s : SS} {w : World} {F : Nat → Prop} (_h : RStL sb L wv s w) (hF : ∀ b, L.role b ≠ .none → F b) (hlt : ∀ b, F b → b < w.heap.size) {x : Nat} (hx : w.heap.size ≤ x) : L.role x = .none := by
 apply Decidable.byContradiction
 intro hn
 have := hlt x (hF x hn)
 omega
theorem RLay.put_none {L : RLay} {j b c m x : Nat} (hx : L.role x = .none) (h1 : x ≠ b) (h2 : x ≠ c) : (L.put j b c m).role x = .none := by
 show (if x = b then RRole.bp j else if x = c then RRole.bs j else if L.role x = .bp j ∨ L.role x = .bs j then RRole.none else L.role x) = _
 rw [if_neg h1, if_neg h2]; split
 · rfl
 · exact hx
theorem RStL.leaveIn {sb : Nat} {L : RLay} {wv : Value} {s : SS} {w w5 : World} {F : Nat → Prop} (h : RStL sb L wv s w) (hF : ∀ b, L.role b ≠ .none → F b) (hlt : ∀ b, F b → b < w.heap.size) {j i g b2 c2 m2 b4 c4 m4 : Nat} {x : WP} {c : Int} {q1 v1 : QS}
   (hj : j < 3) (hw : Below w.heap.size w w5) (hp : RPoolAt b2 c2 m2 q1 w5) (n2 : w.heap.size ≤ b2 ∧ w.heap.size ≤ c2) (hv : RPoolAt b4 c4 m4 v1 w5) (n4 : w.heap.size ≤ b4 ∧ w.heap.size ≤ c4) (nd : b4 ≠ b2 ∧ b4 ≠ c2 ∧ c4 ≠ b2 ∧ c4 ≠ c2)
   (hx : s.W[i]? = some x) (hf : s.find (j : Int) c = some x.q) (hb : x.b = j) (hc : x.c = c) (hg : wv.ownBlock = some g) (hok : ((s.setP (j : Int) q1).setW (j : Int) c v1).Ok) :
   RStP sb F ((s.setP (j : Int) q1).setW (j : Int) c v1) w ((((w5.setCell ⟨L.g, j, none⟩ (.pointer (some ⟨b2, 0, none⟩))).setCell ⟨g, i * 3, none⟩ (.int .i64 x.b)).setCell ⟨g, i * 3 + 1, none⟩ (.int .i64 x.c)).setCell ⟨g, i * 3 + 2, none⟩ (.pointer (some ⟨b4, 0, none⟩))) := by
 have rn : ∀ y, w.heap.size ≤ y → L.role y = .none := fun y hy => h.fresh hF hlt hy
 have h1 := (h.below hw).put hj hp (rn _ n2.1) (rn _ n2.2)
 have hok1 : (s.setP (j : Int) q1).Ok := h1.ok
 have e : (s.setP (j : Int) q1).setW (j : Int) c v1 = ⟨(s.setP (j : Int) q1).P, s.W.set i ⟨x.b, x.c, v1⟩⟩ := SS.setW_at hok1 (s := s.setP (j : Int) q1) hx hf hb hc v1
 rw [e] at hok ⊢
 have hgl : ∀ y, w.heap.size ≤ y → y ≠ L.g := fun y hy e => by
   have := hlt _ (hF L.g (by rw [h.rrow]; simp)); omega
 have hv' : RPoolAt b4 c4 m4 v1 (w5.setCell ⟨L.g, j, none⟩ (.pointer (some ⟨b2, 0, none⟩))) := hv.keep (Keep.put (b := L.g) (Keep.refl _ _) _) (hgl _ n4.1) (hgl _ n4.2)
 have h2 := h1.waitPut (i := i) (g := g) (x := x) hx hv' (RLay.put_none (rn _ n4.1) nd.1 nd.2.1) (RLay.put_none (rn _ n4.2) nd.2.2.1 nd.2.2.2) hg hok
 have rg := h.rwai g hg
 have hFg : F g := hF _ (by rw [rg]; simp)
 have hFL : F L.g := hF _ (by rw [h.rrow]; simp)
 have K : Keep F w ((((w5.setCell ⟨L.g, j, none⟩ (.pointer (some ⟨b2, 0, none⟩))).setCell ⟨g, i * 3, none⟩ (.int .i64 x.b)).setCell ⟨g, i * 3 + 1, none⟩ (.int .i64 x.c)).setCell ⟨g, i * 3 + 2, none⟩ (.pointer (some ⟨b4, 0, none⟩))) :=
   ((((Keep.of_below hw).setCell (p := ⟨L.g, j, none⟩) (.inl hFL) _).setCell (p := ⟨g, i * 3, none⟩) (.inl hFg) _).setCell (p := ⟨g, i * 3 + 1, none⟩) (.inl hFg) _).setCell (p := ⟨g, i * 3 + 2, none⟩) (.inl hFg) _
 have hs : ((((w5.setCell ⟨L.g, j, none⟩ (.pointer (some ⟨b2, 0, none⟩))).setCell ⟨g, i * 3, none⟩ (.int .i64 x.b)).setCell ⟨g, i * 3 + 1, none⟩ (.int .i64 x.c)).setCell ⟨g, i * 3 + 2, none⟩ (.pointer (some ⟨b4, 0, none⟩))).heap.size = w5.heap.size := by simp
 have l2 := hp.lt; have l4 := hv.lt
 refine ⟨K, _, wv, h2, fun y hy => ?_, grownF_lt hlt K.size⟩
 rcases RLay.put_some hy with rfl | rfl | hy
 · exact .inr ⟨n4.1, by rw [hs]; exact l4.1⟩
 · exact .inr ⟨n4.2, by rw [hs]; exact l4.2⟩
 · rcases RLay.put_some hy with rfl | rfl | hy
   · exact .inr ⟨n2.1, by rw [hs]; exact l2.1⟩
   · exact .inr ⟨n2.2, by rw [hs]; exact l2.2⟩
   · exact .inl (hF _ hy)
theorem RStL.leaveAdd {sb : Nat} {L : RLay} {wv wv' : Value} {s : SS} {w w5 w7 : World} {F : Nat → Prop} (h : RStL sb L wv s w) (hF : ∀ b, L.role b ≠ .none → F b) (hlt : ∀ b, F b → b < w.heap.size) {j g b2 c2 m2 b4 c4 m4 : Nat} {c : Int} {q1 v1 : QS} {ob : Obj}
   (hj : j < 3) (hw : Below w.heap.size w w5) (hp : RPoolAt b2 c2 m2 q1 w5) (n2 : w.heap.size ≤ b2 ∧ w.heap.size ≤ c2) (hv : RPoolAt b4 c4 m4 v1 w5) (n4 : w.heap.size ≤ b4 ∧ w.heap.size ≤ c4) (nd : b4 ≠ b2 ∧ b4 ≠ c2 ∧ c4 ≠ b2 ∧ c4 ≠ c2)
   (hf : s.find (j : Int) c = none) (hok : ((s.setP (j : Int) q1).setW (j : Int) c v1).Ok)
   (hg : ((w5.setCell ⟨L.g, j, none⟩ (.pointer (some ⟨b2, 0, none⟩))).alloc ob).grownBy w7 wv.ownBlock) (hgo : wv'.ownBlock = some g) (hor : wv.ownBlock = some g ∨ g = w5.heap.size + 1) (hgl : g < w7.heap.size)
   (ho : w7.ownsRow 0 91 3 wv' (s.W.length + 1) (waitsE L s.W ++ [.int .i64 j, .int .i64 c, .pointer (some ⟨b4, 0, none⟩)])) :
   RStP sb F ((s.setP (j : Int) q1).setW (j : Int) c v1) w (w7.setCell ⟨sb, 1, none⟩ wv') := by
 have rn : ∀ y, w.heap.size ≤ y → L.role y = .none := fun y hy => h.fresh hF hlt hy
 have h1 := (h.below hw).put hj hp (rn _ n2.1) (rn _ n2.2)
 have e : (s.setP (j : Int) q1).setW (j : Int) c v1 = ⟨(s.setP (j : Int) q1).P, s.W ++ [⟨j, c, v1⟩]⟩ := SS.setW_new (s := s.setP (j : Int) q1) hf v1
 rw [e] at hok ⊢
 have l2 := hp.lt; have l4 := hv.lt
 have hws := hw.size
 have hg0 : ∀ k, wv.ownBlock = some k → L.role k = .wrow := h.rwai
 have hlr : ∀ y r, L.role y = r → r ≠ .none → y < w.heap.size := fun y r hy hr => hlt y (hF y (by rw [hy]; exact hr))
 have same : ∀ y, y < w.heap.size → L.role y ≠ .bp j → L.role y ≠ .bs j → (L.put j b2 c2 m2).role y = L.role y := fun y hy h1 h2 => by
   show (if y = b2 then RRole.bp j else if y = c2 then RRole.bs j else if L.role y = .bp j ∨ L.role y = .bs j then RRole.none else L.role y) = _
   rw [if_neg (by omega), if_neg (by omega), if_neg (fun e => e.elim h1 h2)]
 have rsb : sb < w.heap.size := hlr sb _ h.rtop (by simp)
 have wr : ∀ k, wv.ownBlock = some k → (L.put j b2 c2 m2).role k = .wrow := fun k hk => by
   have := hg0 k hk
   rw [same k (hlr k _ this (by simp)) (by rw [this]; simp) (by rw [this]; simp)]; exact this
 have K : Keep (fun y => y = sb ∨ (L.put j b2 c2 m2).role y = .wrow) (w5.setCell ⟨L.g, j, none⟩ (.pointer (some ⟨b2, 0, none⟩))) (w7.setCell ⟨sb, 1, none⟩ wv') :=
   (((Keep.refl _ _).alloc ob).grown hg (fun k hk => .inl (.inr (wr k hk)))).setCell (p := ⟨sb, 1, none⟩) (.inl (.inl rfl)) _
 have hs5 : (w5.setCell ⟨L.g, j, none⟩ (.pointer (some ⟨b2, 0, none⟩))).heap.size = w5.heap.size := by simp
 have hs7 : w5.heap.size + 1 ≤ w7.heap.size := by have := hg.size; simpa using this
 have gne : ∀ y, y < w.heap.size → (L.role y ≠ .wrow) → y ≠ g := fun y hy hr e => by
   subst e
   rcases hor with h | h
   · exact hr (hg0 _ h)
   · omega
 have bg : ∀ y, w.heap.size ≤ y → y < w5.heap.size → y ≠ g := fun y h1 h2 e => by
   subst e
   rcases hor with h | h
   · have := hlr _ _ (hg0 _ h) (by simp); omega
   · omega
 have top7 : RowAt sb 85 [.slice (some ⟨L.g, 0, none⟩) 3 3, wv] w7 := by
   have := h1.top.keep (((Keep.refl (fun y => (L.put j b2 c2 m2).role y = .wrow) _).alloc ob).grown hg (fun k hk => .inl (wr k hk))) (by rw [h1.rtop]; simp)
   exact this
 have hrow := top7.set 1 wv'
 have h2 := h1.waitAdd (wv' := wv') (g := g) (b := b4) (c := c4) (m := m4) (k := j) (cy := c) (q' := v1) hok K hrow hgo
   (by rcases hor with h | h
       · exact .inl (wr g h)
       · exact .inr (RLay.put_none (rn g (by omega)) (by omega) (by omega)))
   (by
     refine ownsRow_other ?_ (fun k hk => Below.heap_setCell _ _ _ _ ?_)
     · have := ho
       rw [← waitsE_put L hj b2 c2 m2 s.W] at this
       exact this
     · have : k = g := by rw [hgo] at hk; exact (Option.some.inj hk).symm
       subst this
       exact fun e => gne sb rsb (by rw [h.rtop]; simp) e.symm)
   ((hv.keep (Keep.put (b := L.g) (Keep.refl _ _) _) (fun e => by have := hlr L.g _ h.rrow (by simp); omega) (fun e => by have := hlr L.g _ h.rrow (by simp); omega)).keep K
     (fun e => by
       rcases e with e | e
       · omega
       · rw [RLay.put_none (rn _ n4.1) nd.1 nd.2.1] at e; cases e)
     (fun e => by
       rcases e with e | e
       · omega
       · rw [RLay.put_none (rn _ n4.2) nd.2.2.1 nd.2.2.2] at e; cases e))
   (RLay.put_none (rn _ n4.1) nd.1 nd.2.1) (RLay.put_none (rn _ n4.2) nd.2.2.1 nd.2.2.2) (bg _ n4.1 l4.1) (bg _ n4.2 l4.2)
 have KF : Keep F w (w7.setCell ⟨sb, 1, none⟩ wv') := by
   refine ((((Keep.of_below hw).setCell (p := ⟨L.g, j, none⟩) (.inl (hF _ (by rw [h.rrow]; simp))) _).alloc ob).grown hg (fun k hk => .inl (hF _ (by rw [hg0 k hk]; simp)))).setCell (p := ⟨sb, 1, none⟩) (.inl (hF _ (by rw [h.rtop]; simp))) _
 have hs : (w7.setCell ⟨sb, 1, none⟩ wv').heap.size = w7.heap.size := by simp
 refine ⟨KF, _, wv', h2, fun y hy => ?_, grownF_lt hlt KF.size⟩
 rcases RLay.add_some hy with rfl | rfl | rfl | hy
 · exact .inr ⟨n4.1, by rw [hs]; omega⟩
 · exact .inr ⟨n4.2, by rw [hs]; omega⟩
 · rcases hor with h | h
   · exact .inl (hF _ (by rw [hg0 _ h]; simp))
   · exact .inr ⟨by omega, by rw [hs]; exact hgl⟩
 · rcases RLay.put_some hy with rfl | rfl | hy
   · exact .inr ⟨n2.1, by rw [hs]; omega⟩
   · exact .inr ⟨n2.2, by rw [hs]; omega⟩
   · exact .inl (hF _ hy)
end Go.Proofs.YtajnfkmkombajaaGreatDoor
