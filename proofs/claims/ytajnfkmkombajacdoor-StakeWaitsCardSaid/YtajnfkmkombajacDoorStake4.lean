/- Contracts: pool.Copy; stake.Leave (what it does to the memory). -/
import Derived.Test.YtajnfkmkombajacDoorStake3
set_option linter.unusedVariables false
set_option linter.unusedSimpArgs false
namespace Go.Proofs.YtajnfkmkombajacDoor
open Go.RowKit Go.Maps

/-- baker k's pool is another one now, and so is (or may be) what waits since cycle c -/
theorem StakesL.left {sb n : Nat} {F : Nat → Prop} {L : Lay} {s : SS} {w W : World} (h : StakesL sb L n s w) (hF : ∀ b, L.role b ≠ .none → F b) (hlt : ∀ b, F b → b < w.heap.size) {k : Nat} (hk : k < 3) (hi : s.is k = true) {q q' v' : QS} (hq : s.get k none = some q) {c : Int}
    (hs : ((s.setP k q').setW k c v').Ok) {m pb mb wb wx : Nat} (hm : n ≤ m)
    (hK : Keep (fun b => b = L.bb k ∨ b = L.wm k ∨ L.role b = .poo k (some c) ∨ L.role b = .map k (some c)) w W)
    (hr : RowAt (L.bb k) 55 [.pointer (some ⟨pb, 0, none⟩), .map (some (L.wm k))] W)
    (hD : ∃ D : DataW Unit, W.ownsMap Tryd.prog 3 blkElem (L.wm k) m D ∧ ∀ c' : Int, D.atKey (.int .i64 c') .nil = if c' = c then .lit (.int .i64 wb) else waitD L k c' (s.find k c'))
    (hp : PoolAt pb mb m q' W) (hv : PoolAt wb wx m v' W) (n1 : w.heap.size ≤ pb) (n2 : w.heap.size ≤ mb) (d1 : wb ≠ pb) (d2 : wb ≠ mb) (d3 : wx ≠ pb) (d4 : wx ≠ mb)
    (r1 : (w.heap.size ≤ wb ∧ w.heap.size ≤ wx) ∨ (wb = L.pb k (some c) ∧ wx = L.pm k (some c) ∧ (s.find k c).isSome = true)) :
    StakesP sb F m ((s.setP k q').setW k c v') w W := by
  have hltr : ∀ x, L.role x ≠ .none → x < w.heap.size := fun x hx => hlt x (hF x hx)
  obtain ⟨hp0, rp0, rm0⟩ := h.poo k none q hk hq
  obtain ⟨hb0, rb0⟩ := h.bak k hk hi
  obtain ⟨rw0, D0, hD0, hD1⟩ := h.wai k hk hi
  have d5 := hp.ne
  have d6 := hv.ne
  have rwb : (w.heap.size ≤ wb ∧ w.heap.size ≤ wx) ∨ (L.role wb = .poo k (some c) ∧ L.role wx = .map k (some c)) := by
    rcases r1 with r1 | ⟨rfl, rfl, r⟩
    · exact .inl r1
    · obtain ⟨v, hv'⟩ := Option.isSome_iff_exists.1 r
      obtain ⟨_, a, b⟩ := h.poo k (some c) v hk hv'
      exact .inr ⟨a, b⟩
  have hls := hp.lt
  have hlv := hv.lt
  have hne : ∀ x r, L.role x = r → r ≠ .none → r ≠ .poo k (some c) → r ≠ .map k (some c) → x ≠ pb ∧ x ≠ mb ∧ x ≠ wb ∧ x ≠ wx := by
    intro x r hx h0 h1 h2
    have hl := hltr x (by rw [hx]; exact h0)
    refine ⟨by omega, by omega, ?_, ?_⟩
    · rintro rfl
      rcases rwb with ⟨a, _⟩ | ⟨a, _⟩
      · omega
      · exact h1 (hx.symm.trans a)
    · rintro rfl
      rcases rwb with ⟨_, a⟩ | ⟨_, a⟩
      · omega
      · exact h2 (hx.symm.trans a)
  let role' : Nat → Role := fun x => if x = pb then .poo k none else if x = mb then .map k none else if x = wb then .poo k (some c) else if x = wx then .map k (some c) else if x = L.pb k none ∨ x = L.pm k none then .none else L.role x
  have hrole : ∀ x r, L.role x = r → r ≠ .none → r ≠ .poo k none → r ≠ .map k none → r ≠ .poo k (some c) → r ≠ .map k (some c) → role' x = r := by
    intro x r hx h0 h1 h2 h3 h4
    obtain ⟨e1, e2, e3, e4⟩ := hne x r hx h0 h3 h4
    show (if x = pb then Role.poo k none else if x = mb then .map k none else if x = wb then .poo k (some c) else if x = wx then .map k (some c) else if x = L.pb k none ∨ x = L.pm k none then .none else L.role x) = r
    rw [if_neg e1, if_neg e2, if_neg e3, if_neg e4, if_neg, hx]
    rintro (rfl | rfl)
    · exact h1 (hx.symm.trans rp0)
    · exact h2 (hx.symm.trans rm0)
  have hnF : ∀ x r, L.role x = r → r ≠ .none → r ≠ .bak k → r ≠ .wai k → r ≠ .poo k (some c) → r ≠ .map k (some c) → ¬ (x = L.bb k ∨ x = L.wm k ∨ L.role x = .poo k (some c) ∨ L.role x = .map k (some c)) := by
    rintro x r hx h0 h1 h2 h3 h4 (rfl | rfl | e | e)
    · exact h1 (hx.symm.trans rb0)
    · exact h2 (hx.symm.trans rw0)
    · exact h3 (hx.symm.trans e)
    · exact h4 (hx.symm.trans e)
  have hfind : ∀ (j : Nat) (c' : Int), ((s.setP k q').setW k c v').find j c' = if (j : Int) = k ∧ c' = c then some v' else s.find j c' := fun j c' => by
    rw [SS.find_setW]; rfl
  have hgetP : ∀ j : Nat, j < 3 → ((s.setP k q').setW k c v').get j none = if j = k then some q' else s.get j none := fun j hj => by
    show (s.setP k q').P.getD j none = if j = k then some q' else s.P.getD j none
    rw [← SS.pool_nat, ← SS.pool_nat, SS.pool_setP h.ok (by omega) (by omega)]
    by_cases e : j = k
    · rw [if_pos e, if_pos (by omega)]
    · rw [if_neg e, if_neg (by omega)]
  have his : ∀ j : Nat, j < 3 → ((s.setP k q').setW k c v').is j = s.is j := fun j hj => by
    rw [SS.is_pool, SS.is_pool, hgetP j hj]
    split
    · next e => subst e; rw [← SS.is_pool, hi]; rfl
    · rfl
  refine ⟨hK.mono (fun b hb => ?_), ⟨L.bb, L.wm, fun j oc => if j = k ∧ oc = none then pb else if j = k ∧ oc = some c then wb else L.pb j oc, fun j oc => if j = k ∧ oc = none then mb else if j = k ∧ oc = some c then wx else L.pm j oc, role'⟩, ⟨hs, ?_, ?_, fun j hj hij => ?_, fun j hj hij => ?_, fun j oc r hj hg => ?_⟩, fun b hb => ?_, grownF_lt hlt hK.size⟩
  · apply hF
    rcases hb with rfl | rfl | e | e
    · rw [rb0]; simp
    · rw [rw0]; simp
    · rw [e]; simp
    · rw [e]; simp
  · have e : ∀ j, j < 3 → bptr ((s.setP k q').setW k c v') ⟨L.bb, L.wm, fun j oc => if j = k ∧ oc = none then pb else if j = k ∧ oc = some c then wb else L.pb j oc, fun j oc => if j = k ∧ oc = none then mb else if j = k ∧ oc = some c then wx else L.pm j oc, role'⟩ j = bptr s L j := fun j hj => by
      unfold bptr; rw [his j hj]
    rw [e 0 (by omega), e 1 (by omega), e 2 (by omega)]
    exact h.top.keep hK (hnF _ _ h.rtop (by simp) (by simp) (by simp) (by simp) (by simp))
  · exact hrole _ _ h.rtop (by simp) (by simp) (by simp) (by simp) (by simp)
  · rw [his j hj] at hij
    obtain ⟨h1, h2⟩ := h.bak j hj hij
    refine ⟨?_, hrole _ _ h2 (by simp) (by simp) (by simp) (by simp) (by simp)⟩
    by_cases hjk : j = k
    · subst hjk; simp only [and_self, if_true]; exact hr
    · simp only [hjk, false_and, if_false]
      exact h1.keep hK (hnF _ _ h2 (by simp) (by simp [hjk]) (by simp) (by simp) (by simp))
  · rw [his j hj] at hij
    obtain ⟨h1, D, h2, h3⟩ := h.wai j hj hij
    refine ⟨hrole _ _ h1 (by simp) (by simp) (by simp) (by simp) (by simp), ?_⟩
    by_cases hjk : j = k
    · subst hjk
      obtain ⟨D', hD', hD''⟩ := hD
      refine ⟨D', hD', fun c' => ?_⟩
      rw [hD'' c', hfind j c']
      by_cases hc : c' = c
      · subst hc; rw [if_pos rfl, if_pos ⟨rfl, rfl⟩]; simp [waitD]
      · rw [if_neg hc, if_neg (by simp [hc])]
        unfold waitD; simp [hc]
    · obtain ⟨es, clock, e1, e2⟩ := h2.mono hm
      refine ⟨D, ⟨es, clock, hK.heap e1 (hnF _ _ h1 (by simp) (by simp) (by simp [hjk]) (by simp) (by simp)), e2⟩, fun c' => ?_⟩
      rw [h3 c', hfind j c', if_neg (by rintro ⟨e, _⟩; exact hjk (by omega))]
      unfold waitD; simp [hjk]
  · cases oc with
    | none =>
      rw [hgetP j hj] at hg
      by_cases hjk : j = k
      · subst hjk; rw [if_pos rfl] at hg; cases hg
        simp only [and_self, if_true]
        refine ⟨hp, ?_, ?_⟩
        · show (if pb = pb then Role.poo j none else _) = _; rw [if_pos rfl]
        · show (if mb = pb then Role.poo j none else if mb = mb then .map j none else _) = _; rw [if_neg (fun e => d5 e.symm), if_pos rfl]
      · rw [if_neg hjk] at hg
        obtain ⟨h1, h2, h3⟩ := h.poo j none r hj hg
        simp only [hjk, false_and, if_false]
        exact ⟨(h1.mono hm).keep hK (hnF _ _ h2 (by simp) (by simp) (by simp) (by simp) (by simp)) (hnF _ _ h3 (by simp) (by simp) (by simp) (by simp) (by simp)), hrole _ _ h2 (by simp) (by simp [hjk]) (by simp) (by simp) (by simp), hrole _ _ h3 (by simp) (by simp) (by simp [hjk]) (by simp) (by simp)⟩
    | some c' =>
      have hg' : ((s.setP k q').setW k c v').find j c' = some r := hg
      rw [hfind j c'] at hg'
      by_cases hjk : j = k ∧ c' = c
      · obtain ⟨rfl, rfl⟩ := hjk
        rw [if_pos ⟨rfl, rfl⟩] at hg'; cases hg'
        simp only [and_self, if_true, reduceCtorEq, and_false, if_false]
        refine ⟨hv, ?_, ?_⟩
        · show (if wb = pb then Role.poo j none else if wb = mb then .map j none else if wb = wb then .poo j (some c') else _) = _; rw [if_neg d1, if_neg d2, if_pos rfl]
        · show (if wx = pb then Role.poo j none else if wx = mb then .map j none else if wx = wb then .poo j (some c') else if wx = wx then .map j (some c') else _) = _; rw [if_neg d3, if_neg d4, if_neg (fun e => d6 e.symm), if_pos rfl]
      · rw [if_neg (by rintro ⟨e, e'⟩; exact hjk ⟨by omega, e'⟩)] at hg'
        obtain ⟨h1, h2, h3⟩ := h.poo j (some c') r hj hg'
        have ne1 : Role.poo j (some c') ≠ .poo k (some c) := by intro e; injection e with e1 e2; injection e2 with e2; exact hjk ⟨e1, e2⟩
        have ne2 : Role.map j (some c') ≠ .map k (some c) := by intro e; injection e with e1 e2; injection e2 with e2; exact hjk ⟨e1, e2⟩
        have e0 : ¬ (j = k ∧ some c' = some c) := by rintro ⟨e1, e2⟩; injection e2 with e2; exact hjk ⟨e1, e2⟩
        simp only [reduceCtorEq, and_false, if_false, e0]
        exact ⟨(h1.mono hm).keep hK (hnF _ _ h2 (by simp) (by simp) (by simp) ne1 (by simp)) (hnF _ _ h3 (by simp) (by simp) (by simp) (by simp) ne2), hrole _ _ h2 (by simp) (by simp) (by simp) ne1 (by simp), hrole _ _ h3 (by simp) (by simp) (by simp) (by simp) ne2⟩
  · have hb : role' b ≠ .none := hb
    by_cases hold : L.role b = .none
    · right
      have hx : b = pb ∨ b = mb ∨ b = wb ∨ b = wx := by
        apply Classical.byContradiction
        intro hn
        simp only [not_or] at hn
        obtain ⟨q1, q2, q3, q4⟩ := hn
        apply hb
        show (if b = pb then Role.poo k none else if b = mb then .map k none else if b = wb then .poo k (some c) else if b = wx then .map k (some c) else if b = L.pb k none ∨ b = L.pm k none then .none else L.role b) = .none
        rw [if_neg q1, if_neg q2, if_neg q3, if_neg q4, hold]; split <;> rfl
      rcases hx with rfl | rfl | rfl | rfl
      · omega
      · omega
      · rcases rwb with ⟨a, _⟩ | ⟨a, _⟩
        · omega
        · rw [hold] at a; cases a
      · rcases rwb with ⟨_, a⟩ | ⟨_, a⟩
        · omega
        · rw [hold] at a; cases a
    · exact .inl (hF b hold)
end Go.Proofs.YtajnfkmkombajacDoor
