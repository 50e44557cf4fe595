/-
  Contracts: pool.Copy; stake.Leave (what it does to the memory).
  Contracts: maps.Clone at a pool's map; pool.Copy.
  Plain: 'a, m[k] = x, y': the entry is laid first, then filled. No program in sight.
  Contracts: stake.cycleError, stake.Leave.
  Plain: what waits, done one by one in whatever order: what is turned so far, and the sums so far. No program in sight.
  Plain: sums over what waits, baker by baker. No program in sight.
-/
import Derived.Test.YtajnfkmkombajaaGreatDoorQSP07
import Derived.Test.YtajnfkmkombajaaGreatDoorQSP06
import Derived.Shelf.SlMaps.Clone
import Derived.WideKeyEntry
import Derived.Maps.OwnSet
import Derived.Deep.DeepCutAuto
import Derived.Deep.CutBlock
import Derived.Test.YtajnfkmkombajaaGreatDoorQSP04
set_option linter.unusedVariables false
set_option linter.unusedSimpArgs false
set_option linter.unusedVariables false
namespace Go.Proofs.YtajnfkmkombajaaGreatDoor
open Go.RowKit Go.Maps
theorem StakesL.left {sb n : Nat} {F : Nat → Prop} {L : Lay} {s : SS} {w W : World} (h : StakesL sb L n s w) (hF : ∀ b, L.role b ≠ .none → F b) (hlt : ∀ b, F b → b < w.heap.size) {k : Nat} (hk : k < 3) (hi : s.is k = true) {q q' v' : QS} (hq : s.get k none = some q) {c : Int}
   (hs : ((s.setP k q').setW k c v').Ok) {m pb mb wb wx : Nat} (hm : n ≤ m)
   (hK : Keep (fun b => b = L.bb k ∨ b = L.wm k ∨ L.role b = .poo k (some c) ∨ L.role b = .map k (some c)) w W)
   (hr : RowAt (L.bb k) 153 [.pointer (some ⟨pb, 0, none⟩), .map (some (L.wm k))] W)
   (hD : ∃ D : DataW Unit, W.ownsMap Tryz.prog 3 blkElem (L.wm k) m D ∧ ∀ c' : Int, D.atKey (.int .i64 c') .nil = if c' = c then .lit (.int .i64 wb) else waitD L k c' (s.find k c'))
   (hp : PoolAt pb mb m q' W) (hv : PoolAt wb wx m v' W) (n1 : w.heap.size ≤ pb) (n2 : w.heap.size ≤ mb) (d1 : wb ≠ pb) (d2 : wb ≠ mb) (d3 : wx ≠ pb) (d4 : wx ≠ mb)
   (r1 : (w.heap.size ≤ wb ∧ w.heap.size ≤ wx) ∨ (wb = L.pb k (some c) ∧ wx = L.pm k (some c) ∧ (s.find k c).isSome = true)) :
   StakesP sb F m ((s.setP k q').setW k c v') w W := by
 have hltr : ∀ x, L.role x ≠ .none → x < w.heap.size := fun x hx => hlt x (hF x hx)
 obtain ⟨hp0, rp0, rm0⟩ := h.poo k none q hk hq
 obtain ⟨hb0, rb0⟩ := h.bak k hk hi
 obtain ⟨rw0, D0, hD0, hD1⟩ := h.wai k hk hi
 have d5 := hp.ne
 have d6 := hv.ne
 have rwb : (w.heap.size ≤ wb ∧ w.heap.size ≤ wx) ∨ (L.role wb = .poo k (some c) ∧ L.role wx = .map k (some c)) := by
   rcases r1 with r1 | ⟨rfl, rfl, r⟩
   · exact .inl r1
   · obtain ⟨v, hv'⟩ := Option.isSome_iff_exists.1 r
     obtain ⟨_, a, b⟩ := h.poo k (some c) v hk hv'
     exact .inr ⟨a, b⟩
 have hls := hp.lt
 have hlv := hv.lt
 have hne : ∀ x r, L.role x = r → r ≠ .none → r ≠ .poo k (some c) → r ≠ .map k (some c) → x ≠ pb ∧ x ≠ mb ∧ x ≠ wb ∧ x ≠ wx := by
   intro x r hx h0 h1 h2
   have hl := hltr x (by rw [hx]; exact h0)
   refine ⟨by omega, by omega, ?_, ?_⟩
   · rintro rfl
     rcases rwb with ⟨a, _⟩ | ⟨a, _⟩
     · omega
     · exact h1 (hx.symm.trans a)
   · rintro rfl
     rcases rwb with ⟨_, a⟩ | ⟨_, a⟩
     · omega
     · exact h2 (hx.symm.trans a)
 let role' : Nat → Role := fun x => if x = pb then .poo k none else if x = mb then .map k none else if x = wb then .poo k (some c) else if x = wx then .map k (some c) else if x = L.pb k none ∨ x = L.pm k none then .none else L.role x
 have hrole : ∀ x r, L.role x = r → r ≠ .none → r ≠ .poo k none → r ≠ .map k none → r ≠ .poo k (some c) → r ≠ .map k (some c) → role' x = r := by
   intro x r hx h0 h1 h2 h3 h4
   obtain ⟨e1, e2, e3, e4⟩ := hne x r hx h0 h3 h4
   show (if x = pb then Role.poo k none else if x = mb then .map k none else if x = wb then .poo k (some c) else if x = wx then .map k (some c) else if x = L.pb k none ∨ x = L.pm k none then .none else L.role x) = r
   rw [if_neg e1, if_neg e2, if_neg e3, if_neg e4, if_neg, hx]
   rintro (rfl | rfl)
   · exact h1 (hx.symm.trans rp0)
   · exact h2 (hx.symm.trans rm0)
 have hnF : ∀ x r, L.role x = r → r ≠ .none → r ≠ .bak k → r ≠ .wai k → r ≠ .poo k (some c) → r ≠ .map k (some c) → ¬ (x = L.bb k ∨ x = L.wm k ∨ L.role x = .poo k (some c) ∨ L.role x = .map k (some c)) := by
   rintro x r hx h0 h1 h2 h3 h4 (rfl | rfl | e | e)
   · exact h1 (hx.symm.trans rb0)
   · exact h2 (hx.symm.trans rw0)
   · exact h3 (hx.symm.trans e)
   · exact h4 (hx.symm.trans e)
 have hfind : ∀ (j : Nat) (c' : Int), ((s.setP k q').setW k c v').find j c' = if (j : Int) = k ∧ c' = c then some v' else s.find j c' := fun j c' => by
   rw [SS.find_setW]; rfl
 have hgetP : ∀ j : Nat, j < 3 → ((s.setP k q').setW k c v').get j none = if j = k then some q' else s.get j none := fun j hj => by
   show (s.setP k q').P.getD j none = if j = k then some q' else s.P.getD j none
   rw [← SS.pool_nat, ← SS.pool_nat, SS.pool_setP h.ok (by omega) (by omega)]
   by_cases e : j = k
   · rw [if_pos e, if_pos (by omega)]
   · rw [if_neg e, if_neg (by omega)]
 have his : ∀ j : Nat, j < 3 → ((s.setP k q').setW k c v').is j = s.is j := fun j hj => by
   rw [SS.is_pool, SS.is_pool, hgetP j hj]
   split
   · next e => subst e; rw [← SS.is_pool, hi]; rfl
   · rfl
 refine ⟨hK.mono (fun b hb => ?_), ⟨L.bb, L.wm, fun j oc => if j = k ∧ oc = none then pb else if j = k ∧ oc = some c then wb else L.pb j oc, fun j oc => if j = k ∧ oc = none then mb else if j = k ∧ oc = some c then wx else L.pm j oc, role'⟩, ⟨hs, ?_, ?_, fun j hj hij => ?_, fun j hj hij => ?_, fun j oc r hj hg => ?_⟩, fun b hb => ?_, grownF_lt hlt hK.size⟩
 · apply hF
   rcases hb with rfl | rfl | e | e
   · rw [rb0]; simp
   · rw [rw0]; simp
   · rw [e]; simp
   · rw [e]; simp
 · have e : ∀ j, j < 3 → bptr ((s.setP k q').setW k c v') ⟨L.bb, L.wm, fun j oc => if j = k ∧ oc = none then pb else if j = k ∧ oc = some c then wb else L.pb j oc, fun j oc => if j = k ∧ oc = none then mb else if j = k ∧ oc = some c then wx else L.pm j oc, role'⟩ j = bptr s L j := fun j hj => by
     unfold bptr; rw [his j hj]
   rw [e 0 (by omega), e 1 (by omega), e 2 (by omega)]
   exact h.top.keep hK (hnF _ _ h.rtop (by simp) (by simp) (by simp) (by simp) (by simp))
 · exact hrole _ _ h.rtop (by simp) (by simp) (by simp) (by simp) (by simp)
 · rw [his j hj] at hij
   obtain ⟨h1, h2⟩ := h.bak j hj hij
   refine ⟨?_, hrole _ _ h2 (by simp) (by simp) (by simp) (by simp) (by simp)⟩
   by_cases hjk : j = k
   · subst hjk; simp only [and_self, if_true]; exact hr
   · simp only [hjk, false_and, if_false]
     exact h1.keep hK (hnF _ _ h2 (by simp) (by simp [hjk]) (by simp) (by simp) (by simp))
 · rw [his j hj] at hij
   obtain ⟨h1, D, h2, h3⟩ := h.wai j hj hij
   refine ⟨hrole _ _ h1 (by simp) (by simp) (by simp) (by simp) (by simp), ?_⟩
   by_cases hjk : j = k
   · subst hjk
     obtain ⟨D', hD', hD''⟩ := hD
     refine ⟨D', hD', fun c' => ?_⟩
     rw [hD'' c', hfind j c']
     by_cases hc : c' = c
     · subst hc; rw [if_pos rfl, if_pos ⟨rfl, rfl⟩]; simp [waitD]
     · rw [if_neg hc, if_neg (by simp [hc])]
       unfold waitD; simp [hc]
   · obtain ⟨es, clock, e1, e2⟩ := h2.mono hm
     refine ⟨D, ⟨es, clock, hK.heap e1 (hnF _ _ h1 (by simp) (by simp) (by simp [hjk]) (by simp) (by simp)), e2⟩, fun c' => ?_⟩
     rw [h3 c', hfind j c', if_neg (by rintro ⟨e, _⟩; exact hjk (by omega))]
     unfold waitD; simp [hjk]
 · cases oc with
   | none =>
     rw [hgetP j hj] at hg
     by_cases hjk : j = k
     · subst hjk; rw [if_pos rfl] at hg; cases hg
       simp only [and_self, if_true]
       refine ⟨hp, ?_, ?_⟩
       · show (if pb = pb then Role.poo j none else _) = _; rw [if_pos rfl]
       · show (if mb = pb then Role.poo j none else if mb = mb then .map j none else _) = _; rw [if_neg (fun e => d5 e.symm), if_pos rfl]
     · rw [if_neg hjk] at hg
       obtain ⟨h1, h2, h3⟩ := h.poo j none r hj hg
       simp only [hjk, false_and, if_false]
       exact ⟨(h1.mono hm).keep hK (hnF _ _ h2 (by simp) (by simp) (by simp) (by simp) (by simp)) (hnF _ _ h3 (by simp) (by simp) (by simp) (by simp) (by simp)), hrole _ _ h2 (by simp) (by simp [hjk]) (by simp) (by simp) (by simp), hrole _ _ h3 (by simp) (by simp) (by simp [hjk]) (by simp) (by simp)⟩
   | some c' =>
     have hg' : ((s.setP k q').setW k c v').find j c' = some r := hg
     rw [hfind j c'] at hg'
     by_cases hjk : j = k ∧ c' = c
     · obtain ⟨rfl, rfl⟩ := hjk
       rw [if_pos ⟨rfl, rfl⟩] at hg'; cases hg'
       simp only [and_self, if_true, reduceCtorEq, and_false, if_false]
       refine ⟨hv, ?_, ?_⟩
       · show (if wb = pb then Role.poo j none else if wb = mb then .map j none else if wb = wb then .poo j (some c') else _) = _; rw [if_neg d1, if_neg d2, if_pos rfl]
       · show (if wx = pb then Role.poo j none else if wx = mb then .map j none else if wx = wb then .poo j (some c') else if wx = wx then .map j (some c') else _) = _; rw [if_neg d3, if_neg d4, if_neg (fun e => d6 e.symm), if_pos rfl]
     · rw [if_neg (by rintro ⟨e, e'⟩; exact hjk ⟨by omega, e'⟩)] at hg'
       obtain ⟨h1, h2, h3⟩ := h.poo j (some c') r hj hg'
       have ne1 : Role.poo j (some c') ≠ .poo k (some c) := by intro e; injection e with e1 e2; injection e2 with e2; exact hjk ⟨e1, e2⟩
       have ne2 : Role.map j (some c') ≠ .map k (some c) := by intro e; injection e with e1 e2; injection e2 with e2; exact hjk ⟨e1, e2⟩
       have e0 : ¬ (j = k ∧ some c' = some c) := by rintro ⟨e1, e2⟩; injection e2 with e2; exact hjk ⟨e1, e2⟩
       simp only [reduceCtorEq, and_false, if_false, e0]
       exact ⟨(h1.mono hm).keep hK (hnF _ _ h2 (by simp) (by simp) (by simp) ne1 (by simp)) (hnF _ _ h3 (by simp) (by simp) (by simp) (by simp) ne2), hrole _ _ h2 (by simp) (by simp) (by simp) ne1 (by simp), hrole _ _ h3 (by simp) (by simp) (by simp) (by simp) ne2⟩
 · have hb : role' b ≠ .none := hb
   by_cases hold : L.role b = .none
   · right
     have hx : b = pb ∨ b = mb ∨ b = wb ∨ b = wx := by
       apply Classical.byContradiction
       intro hn
       simp only [not_or] at hn
       obtain ⟨q1, q2, q3, q4⟩ := hn
       apply hb
       show (if b = pb then Role.poo k none else if b = mb then .map k none else if b = wb then .poo k (some c) else if b = wx then .map k (some c) else if b = L.pb k none ∨ b = L.pm k none then .none else L.role b) = .none
       rw [if_neg q1, if_neg q2, if_neg q3, if_neg q4, hold]; split <;> rfl
     rcases hx with rfl | rfl | rfl | rfl
     · omega
     · omega
     · rcases rwb with ⟨a, _⟩ | ⟨a, _⟩
       · omega
       · rw [hold] at a; cases a
     · rcases rwb with ⟨_, a⟩ | ⟨_, a⟩
       · omega
       · rw [hold] at a; cases a
   · exact .inl (hF b hold)
end Go.Proofs.YtajnfkmkombajaaGreatDoor
namespace Go.Proofs.YtajnfkmkombajaaGreatDoor
open Go.RowKit Go.Maps
set_option maxRecDepth 100000 in
set_option maxHeartbeats 1000000 in
theorem maps_Clone (b : Nat) (es : Array MapEntry) (clock : Nat) (w : World) (hb : w.heap[b]? = some (.map es clock)) :
   Calls Tryz.prog 189 #[.map (some b)] w fun e w' => e = .returned (.map (some w.heap.size)) ∧ w' = w.alloc (.map es clock) := by
 have hq := fun w => run_eql_map_nil_sl (P := Tryz.prog) w 191 _ _ (some b) Tryz.underlying191
 go_enter Tryz.func189, Tryz.ntmps189
 go_wp2
 rw [run_callFunc_extern Tryz.func220 (by kernel_rfl) (by kernel_rfl) (by kernel_rfl) (e := Extern.MapsClone.clone) (by kernel_rfl), run_maps_clone_sl w 191 hb]
 simp only [Result.andThen]
 rw [Oper.upon_value]
 go_wp2
 rw [run_typeAssert_map_sl _ 191 _ _ _ _ Tryz.underlying191]
 simp only [Result.andThen]
 rw [Oper.upon_value]
 go_wp2
 go_ret
 exact ⟨rfl, rfl⟩
theorem pool_copied {b mb n : Nat} {q : QS} {w : World} (h : PoolAt b mb n q w) {es : Array MapEntry} {clock : Nat} (hb : w.heap[mb]? = some (.map es clock)) :
   Below w.heap.size w ((w.drew.alloc (.map es clock)).alloc (.cells #[.int .i64 q.total, .int .i64 q.all, .map (some w.heap.size)] 193)) ∧
   PoolAt (w.heap.size + 1) w.heap.size n q ((w.drew.alloc (.map es clock)).alloc (.cells #[.int .i64 q.total, .int .i64 q.all, .map (some w.heap.size)] 193)) ∧
   ((w.drew.alloc (.map es clock)).alloc (.cells #[.int .i64 q.total, .int .i64 q.all, .map (some w.heap.size)] 193)).heap.size = w.heap.size + 2 := by
 have hs : (w.drew.alloc (.map es clock)).heap.size = w.heap.size + 1 := by
   show (w.alloc (.map es clock)).heap.size = _
   simp
 obtain ⟨D, ⟨es', clock', hb', F, hn, hD⟩, hat⟩ := h.own
 rw [hb] at hb'; cases hb'
 refine ⟨(((Below.refl _ w).drewN 1).alloc (Nat.le_refl _) _).alloc (Nat.le_of_lt (by rw [show ((w.drewN 1).alloc (.map es clock)).heap.size = w.heap.size + 1 from hs]; exact Nat.lt_succ_self _)) _, ⟨h.ok, ?_, ⟨D, ?_, hat⟩, by omega⟩, by
   rw [World.size_alloc, hs]⟩
 · have := RowAt.new (w.drew.alloc (.map es clock)) 193 [.int .i64 q.total, .int .i64 q.all, .map (some w.heap.size)]
   rw [hs] at this
   exact this
 · exact World.ownsMap.alloc ⟨es, clock, (MapKept.heap_alloc w.drew _).1, F, hn, hD⟩ _
set_option maxRecDepth 8000 in
set_option maxHeartbeats 2000000 in
theorem pool_Copy (b mb n : Nat) (q : QS) (w : World) (h : PoolAt b mb n q w) : Calls Tryz.prog 168 #[.pointer (some ⟨b, 0, none⟩)] w fun e w' => e = .returned (.pointer (some ⟨w.heap.size + 1, 0, none⟩)) ∧ Below w.heap.size w w' ∧ PoolAt (w.heap.size + 1) w.heap.size n q w' ∧ w'.heap.size = w.heap.size + 2 := by
 have c0 := h.c0
 have c1 := h.c1
 have c2 := h.c2
 have hlt := h.lt.1
 obtain ⟨es, clock, hb, F, hs, hD⟩ := h.own.choose_spec.1
 have HC := Lib.hid (fun (wx : World) (hx : wx.heap = w.heap) => maps_Clone mb es clock wx (by rw [hx]; exact hb))
 have HP := Lib.hid (pool_copied h hb)
 clear h hs F hD hb
 go_enter Tryz.func168, Tryz.ntmps168
 go_wp2_with fail
 go_region_with (go_at_call 189; refine (HC.out w.drew rfl).mono ?_; rintro e w1 ⟨rfl, rfl⟩)
 all_goals
   go_wp2
   go_ret
   exact ⟨rfl, HP.out⟩
end Go.Proofs.YtajnfkmkombajaaGreatDoor
namespace Go.Proofs.YtajnfkmkombajaaGreatDoor
open Go.RowKit Go.Maps Go.WideElems Go.MapKept Go.ChangeMaps
theorem setBlock_twice (w : World) (b : Nat) (x y : Obj) : setBlock (setBlock w b x) b y = setBlock w b y := by simp [setBlock]
section
variable {H : Type} {P : Program} {k : TypeId} {R : Value → Option (DataW H × List MemPlace)} {w : World} {b n : Nat} {D : DataW H}
theorem own_entry {t e : TypeId} (h : w.ownsMap P k R b n D) (K : Keyed P k) (ht : P.underlying t = some (.map k e)) (hn : n < maxLen) {z : Value} (hz : ∀ u : World, (zeroValue e).run P u = .ok z u) {key : Value} {kl : Lit} (hkey : keyOf P k key = some kl) :
   ∃ (v0 : Value) (st : Nat) (w1 : World), (Instr.mapEntry t (.map (some b)) key).run P w = .ok (.tuple #[v0, .int .i64 st]) w1 ∧ w.mapTurned w1 b ∧
     ∀ {val : Value} {d : DataW H} {ps : List MemPlace}, R val = some (d, ps) → ∃ w3, (Instr.entryStore t (.map (some b)) (.int .i64 st) val).run P w1 = .ok () w3 ∧ w3.ownsMap P k R b (n + 1) (D.put kl d) ∧ w.mapTurned w3 b := by
 obtain ⟨es, clock, hb, F, hs, hD⟩ := id h
 obtain ⟨s1, s2, _⟩ := F.stamped
 rcases K.find w hkey es.toList F.keys with ⟨h1, h2⟩ | ⟨j, e0, h1, h2, h3⟩
 · refine ⟨z, clock, setBlock w b (.map (es.push ⟨key, z, clock⟩) (clock + 1)), ?_, ⟨es, clock, _, _, hb, rfl⟩, fun {val d ps} hv => ?_⟩
   · simp [Instr.mapEntry, run_underlying ht, MapKept.run_getObj_map hb, K.check w false hkey, h1, hz, MapKept.run_setObj_map _ hb, Result.andThen, setBlock, goInt]
   · obtain ⟨w', hrun, ho, _⟩ := h.update K ht hn hkey hv
     have hup : (Instr.mapUpdate t (.map (some b)) key val).run P w = .ok () (setBlock w b (.map (es.push ⟨key, val, clock⟩) (clock + 1))) := by
       simp [Instr.mapUpdate, run_underlying ht, MapKept.run_getObj_map hb, K.check w false hkey, h1, MapKept.run_setObj_map _ hb, Result.andThen, setBlock]
     rw [hup] at hrun; cases hrun
     refine ⟨_, ?_, ho, ⟨es, clock, _, _, hb, rfl⟩⟩
     have hw1 : (setBlock w b (.map (es.push ⟨key, z, clock⟩) (clock + 1))).heap[b]? = some (.map (es.push ⟨key, z, clock⟩) (clock + 1)) := heap_setBlock_same hb _
     have hidx : (es.push ⟨key, z, clock⟩).findIdx? (fun e => ((e.born : Nat) : Int) == ((clock : Nat) : Int)) = some es.size := by
       rw [findIdx_arr]
       exact findIdx_born (l := (es.push ⟨key, z, clock⟩).toList) (j := es.size) (e0 := ⟨key, z, clock⟩) (by
         simp only [Array.toList_push, List.map_append, List.map_cons, List.map_nil]
         refine List.nodup_append.2 ⟨s2, by simp, fun a ha c hc e1 => ?_⟩
         obtain rfl := List.mem_singleton.1 hc
         obtain ⟨x, hx, rfl⟩ := List.mem_map.1 ha
         have := s1 x hx
         omega) (by simp)
     have hmod : (es.push ⟨key, z, clock⟩).modify es.size (fun e => { e with val := val }) = es.push ⟨key, val, clock⟩ := by
       apply Array.ext'
       rw [Array.toList_modify, Array.toList_push, Array.toList_push, ← Array.length_toList, modify_last]
     have hst : ∀ w1 : World, w1.heap[b]? = some (.map (es.push ⟨key, z, clock⟩) (clock + 1)) → (Instr.entryStore t (.map (some b)) (.int .i64 clock) val).run P w1 = .ok () (setBlock w1 b (.map (es.push ⟨key, val, clock⟩) (clock + 1))) := fun w1 hw1 => by
       simp [Instr.entryStore, MapKept.run_getObj_map hw1, asInt, asIntOf, hidx, hmod, MapKept.run_setObj_map _ hw1, Result.andThen, setBlock]
     rw [hst _ hw1, setBlock_twice]
 · have hj : es[j]? = some e0 := by simpa using h2
   have hsame : es.modify j (fun e => { e with key := key }) = es := by
     apply Array.ext'
     rw [Array.toList_modify, modify_eq_set _ _ _ _ h2]
     have : ({ e0 with key := key } : MapEntry) = e0 := by rw [← h3]
     rw [this]
     exact set_self _ _ _ h2
   refine ⟨e0.val, e0.born, setBlock w b (.map es clock), ?_, ⟨es, clock, _, _, hb, rfl⟩, fun {val d ps} hv => ?_⟩
   · simp [Instr.mapEntry, run_underlying ht, MapKept.run_getObj_map hb, K.check w false hkey, h1, hj, h3, K.stays w hkey, hsame, MapKept.run_setObj_map _ hb, Result.andThen, setBlock, goInt]
   · obtain ⟨w', hrun, ho, _⟩ := h.update K ht hn hkey hv
     have hup : (Instr.mapUpdate t (.map (some b)) key val).run P w = .ok () (setBlock w b (.map (es.modify j (fun e' => { e' with key := key, val := val })) clock)) := by
       simp [Instr.mapUpdate, run_underlying ht, MapKept.run_getObj_map hb, K.check w false hkey, h1, hj, h3, K.stays w hkey, MapKept.run_setObj_map _ hb, Result.andThen, setBlock]
     rw [hup] at hrun; cases hrun
     refine ⟨_, ?_, ho, ⟨es, clock, _, _, hb, rfl⟩⟩
     have hw1 : (setBlock w b (.map es clock)).heap[b]? = some (.map es clock) := heap_setBlock_same hb _
     have hidx : es.findIdx? (fun e => ((e.born : Nat) : Int) == ((e0.born : Nat) : Int)) = some j := by
       rw [findIdx_arr]
       exact findIdx_born s2 h2
     have hmod : es.modify j (fun e => { e with val := val }) = es.modify j (fun e' => { e' with key := key, val := val }) := by
       apply Array.ext'
       rw [Array.toList_modify, Array.toList_modify, modify_eq_set _ _ _ _ h2, modify_eq_set _ _ _ _ h2, ← h3]
     have hst : ∀ w1 : World, w1.heap[b]? = some (.map es clock) → (Instr.entryStore t (.map (some b)) (.int .i64 e0.born) val).run P w1 = .ok () (setBlock w1 b (.map (es.modify j (fun e' => { e' with key := key, val := val })) clock)) := fun w1 hw1 => by
       simp [Instr.entryStore, MapKept.run_getObj_map hw1, asInt, asIntOf, hidx, hmod, MapKept.run_setObj_map _ hw1, Result.andThen, setBlock]
     rw [hst _ hw1, setBlock_twice]
end
end Go.Proofs.YtajnfkmkombajaaGreatDoor
namespace Go.Proofs.YtajnfkmkombajaaGreatDoor
open Go.RowKit Go.Maps
theorem StakesP.of_below {sb n : Nat} {F : Nat → Prop} {s : SS} {w w' : World} (h : StakesAt sb F n s w) (hb : Below w.heap.size w w') : StakesP sb F n s w w' :=
 ⟨Keep.of_below hb, (h.below hb).foot (fun _ hk => .inl hk) (grownF_lt (fun _ hk => h.lt hk) hb.size)⟩
theorem StakesP.after {sb n : Nat} {F : Nat → Prop} {s : SS} {w w1 w2 : World} (hb : Below w.heap.size w w1) (hF : ∀ b, F b → b < w.heap.size) (h : StakesP sb F n s w1 w2) : StakesP sb F n s w w2 := by
 obtain ⟨hk, hs⟩ := h
 have hk2 : Keep F w w2 := (Keep.of_below hb).trans hk
 exact ⟨hk2, hs.foot (fun b hx => by rcases hx with hx | hx; exact .inl hx; right; have := hb.size; omega) (grownF_lt hF hk2.size)⟩
theorem stake_cycleError (A : Nat → Addr) (S : List Nat) (c : Int) (w : World) (hE : Errs A S w) (h2 : 2 ∈ S) :
   Calls Tryz.prog 167 #[.int .i64 c] w fun e w' => e = .returned (ev A (cycleC c)) ∧ w = w' := by
 have g2 : w.cell? ⟨0, 0, none⟩ = some (.iface 288 (.pointer (some (A 2)))) := hE.cell 2 h2
 clear hE
 by_cases hc : cycleC c = 0
 · obtain ⟨h1, h2'⟩ := cycleC_zero.1 hc
   have H := Lib.hid (show ev A (cycleC c) = .nilIface by rw [hc]; rfl)
   clear hc
   go_enter Tryz.func167, Tryz.ntmps167
   go_wp2
   go_ret
   exact ⟨by rw [H.out]; rfl, rfl⟩
 · have hw : c < 0 ∨ (0 ≤ c ∧ 1048576 < c) := by rw [cycleC_zero] at hc; omega
   have H := Lib.hid (show ev A (cycleC c) = .iface 288 (.pointer (some (A 2))) by unfold cycleC; rw [if_pos (by omega)]; rfl)
   clear hc
   rcases hw with h0 | ⟨h0, h1⟩
   all_goals
     go_enter Tryz.func167, Tryz.ntmps167
     go_wp2
     go_ret
     exact ⟨by rw [H.out]; rfl, rfl⟩
structure LeaveM (w w4 : World) (L : Lay) (j : Nat) (c : Int) (m pb mb wb wx : Nat) (q' v' : QS) : Prop where
 keep : Keep (fun b => L.role b = .poo j (some c) ∨ L.role b = .map j (some c)) w w4
 pool : PoolAt pb mb m q' w4
 wait : PoolAt wb wx m v' w4
 n1 : w.heap.size ≤ pb
 n2 : w.heap.size ≤ mb
 d1 : wb ≠ pb
 d2 : wb ≠ mb
 d3 : wx ≠ pb
 d4 : wx ≠ mb
theorem StakesL.leaves {sb n : Nat} {F : Nat → Prop} {L : Lay} {s : SS} {w w4 : World} (h : StakesL sb L n s w) (hF : ∀ b, L.role b ≠ .none → F b) (hlt : ∀ b, F b → b < w.heap.size) {k : Nat} (hk : k < 3) (hi : s.is k = true) {q q' v' : QS} (hq : s.get k none = some q) {c : Int}
   (hs : ((s.setP k q').setW k c v').Ok) {m pb mb wb wx : Nat} (hm : n ≤ m) (M : LeaveM w w4 L k c m pb mb wb wx q' v')
   (r1 : (w.heap.size ≤ wb ∧ w.heap.size ≤ wx) ∨ (wb = L.pb k (some c) ∧ wx = L.pm k (some c) ∧ (s.find k c).isSome = true)) :
   ∃ D : DataW Unit, (w4.setCell ⟨L.bb k, 0, none⟩ (.pointer (some ⟨pb, 0, none⟩))).ownsMap Tryz.prog 3 blkElem (L.wm k) m D ∧ w4.cell? ⟨L.bb k, 0, none⟩ = some (.pointer (some ⟨L.pb k none, 0, none⟩)) ∧ w4.cell? ⟨L.bb k, 1, none⟩ = some (.map (some (L.wm k))) ∧ w4.frozen? ⟨L.bb k, 0, none⟩ = false ∧
     ∀ w7, (w4.setCell ⟨L.bb k, 0, none⟩ (.pointer (some ⟨pb, 0, none⟩))).mapTurned w7 (L.wm k) → w7.ownsMap Tryz.prog 3 blkElem (L.wm k) (m + 1) (D.put (.int .i64 c) (.lit (.int .i64 wb))) → StakesP sb F (m + 1) ((s.setP k q').setW k c v') w w7 := by
 obtain ⟨hb0, rb0⟩ := h.bak k hk hi
 obtain ⟨rw0, D, hD0, hD1⟩ := h.wai k hk hi
 have ne0 : L.bb k ≠ L.wm k := fun e => by rw [e, rw0] at rb0; cases rb0
 have hbb : L.bb k < w.heap.size := hlt _ (hF _ (by rw [rb0]; simp))
 have hwm : L.wm k < w.heap.size := hlt _ (hF _ (by rw [rw0]; simp))
 have hb4 := hb0.keep M.keep (by rw [rb0]; simp)
 have hD4 : w4.ownsMap Tryz.prog 3 blkElem (L.wm k) m D := by
   obtain ⟨es, clock, e1, e2⟩ := hD0.mono hm
   exact ⟨es, clock, M.keep.heap e1 (by rw [rw0]; simp), e2⟩
 have hD5 := hD4.setCell (a := ⟨L.bb k, 0, none⟩) (by exact fun e => ne0 e.symm) (.pointer (some ⟨pb, 0, none⟩))
 refine ⟨D, hD5, by rw [hb4.cell]; rfl, by rw [hb4.cell]; rfl, hb4.frozen 0, fun w7 ht ho => ?_⟩
 have hpoo := h.poo k none q hk hq
 have npb : pb ≠ L.bb k ∧ pb ≠ L.wm k ∧ mb ≠ L.bb k ∧ mb ≠ L.wm k := by have := M.n1; have := M.n2; omega
 have nwb : wb ≠ L.bb k ∧ wb ≠ L.wm k ∧ wx ≠ L.bb k ∧ wx ≠ L.wm k := by
   rcases r1 with ⟨a, b⟩ | ⟨rfl, rfl, r⟩
   · omega
   · obtain ⟨v, hv⟩ := Option.isSome_iff_exists.1 r
     obtain ⟨_, a, b⟩ := h.poo k (some c) v hk hv
     refine ⟨fun e => ?_, fun e => ?_, fun e => ?_, fun e => ?_⟩
     · rw [e, rb0] at a; cases a
     · rw [e, rw0] at a; cases a
     · rw [e, rb0] at b; cases b
     · rw [e, rw0] at b; cases b
 have hK2 : Keep (fun b => b = L.bb k ∨ b = L.wm k) w4 w7 := ((Keep.refl _ _).setCell (p := ⟨L.bb k, 0, none⟩) (.inl (.inl rfl)) _).grown ht.grown (fun i hi' => .inl (.inr (by simpa using hi'.symm)))
 have hK : Keep (fun b => b = L.bb k ∨ b = L.wm k ∨ L.role b = .poo k (some c) ∨ L.role b = .map k (some c)) w w7 :=
   (M.keep.mono (fun b hb => .inr (.inr hb))).trans (hK2.mono (fun b hb => by rcases hb with e | e; exact .inl e; exact .inr (.inl e)))
 refine h.left hF hlt hk hi hq hs (Nat.le_succ_of_le hm) hK ?_ ⟨_, ho, fun c' => ?_⟩ ((M.pool.mono (Nat.le_succ m)).keep hK2 (by omega) (by omega)) ((M.wait.mono (Nat.le_succ m)).keep hK2 (by omega) (by omega)) M.n1 M.n2 M.d1 M.d2 M.d3 M.d4 r1
 · have hr := hb4.set 0 (.pointer (some ⟨pb, 0, none⟩))
   have hlt5 := hr.lt
   exact (ht.grown.block (L.bb k) hlt5 (fun e => ne0 (by simpa using e))).trans hr
 · by_cases hc : c' = c
   · subst hc
     rw [if_pos rfl, atKey_put_same hD5.isMap (show WideAt.IsKeyLit (.int .i64 c') from trivial)]
   · rw [if_neg hc, atKey_put_other (by simpa using hc)]
     exact hD1 c'
theorem leave_no {s : SS} {o k n c : Int} (h : s.is k = false) : s.leaveOp o k n c = (4, s) := by unfold SS.leaveOp; rw [SS.is_none h]
theorem leave_cyc {s : SS} {o k n c : Int} {q : QS} (h : s.pool k = some q) (hc : cycleC c ≠ 0) : s.leaveOp o k n c = (2, s) := by unfold SS.leaveOp; rw [h]; simp only; rw [if_pos hc]
theorem leave_take {s : SS} {o k n c : Int} {q : QS} (h : s.pool k = some q) (hc : cycleC c = 0) (ht : (q.takeOp o n).1 ≠ 0) : s.leaveOp o k n c = ((q.takeOp o n).1, s) := by unfold SS.leaveOp; rw [h]; simp only; rw [if_neg (by simp [hc]), if_pos ht]
theorem leave_join {s : SS} {o k n c : Int} {q v : QS} (h : s.pool k = some q) (hc : cycleC c = 0) (ht : (q.takeOp o n).1 = 0) (hv : (s.find k c).getD QS.new = v) (hj : (v.joinOp o n).1 ≠ 0) : s.leaveOp o k n c = ((v.joinOp o n).1, s) := by
 unfold SS.leaveOp; rw [h]; simp only; rw [if_neg (by simp [hc]), if_neg (by simp [ht]), hv, if_pos hj]
theorem leave_in {s : SS} {o k n c : Int} {q v : QS} (h : s.pool k = some q) (hc : cycleC c = 0) (ht : (q.takeOp o n).1 = 0) (hv : (s.find k c).getD QS.new = v) (hj : (v.joinOp o n).1 = 0) : s.leaveOp o k n c = (0, (s.setP k (q.takeOp o n).2).setW k c (v.joinOp o n).2) := by
 unfold SS.leaveOp; rw [h]; simp only; rw [if_neg (by simp [hc]), if_neg (by simp [ht]), hv, if_neg (by simp [hj])]
theorem ptrZero (w : World) : (zeroValue 149).run Tryz.prog w = .ok (.pointer none) w := by kernel_rfl
theorem StakesL.look {sb n : Nat} {L : Lay} {s : SS} {w : World} (h : StakesL sb L n s w) {k : Nat} (hk : k < 3) (hi : s.is k = true) (c : Int) (hc : (Lit.int .i64 c).wf = true) (wx : World) (hx : wx.heap[L.wm k]? = w.heap[L.wm k]?) :
   (Instr.lookup 151 (.map (some (L.wm k))) (.int .i64 c) false).run Tryz.prog wx = .ok (if (s.find k c).isSome then .pointer (some ⟨L.pb k (some c), 0, none⟩) else .pointer none) wx := by
 obtain ⟨rw0, D, hD0, hD1⟩ := h.wai k hk hi
 have hDx : wx.ownsMap Tryz.prog 3 blkElem (L.wm k) n D := by
   obtain ⟨es, clock, e1, e2⟩ := hD0
   exact ⟨es, clock, hx.trans e1, e2⟩
 obtain ⟨es, clock, hb, Ft, _, hD⟩ := hDx
 rcases Maps.fit_look false keyI Tryz.underlying151 (ptrZero _) hb Ft (keyOf_int_mk Tryz.underlying3 hc) with ⟨hrun, _, hat⟩ | ⟨e0, y, _, _, hrun, hRv, hat, _⟩
 · rw [hrun]
   have := hat .nil
   rw [← hD, hD1 c] at this
   unfold waitD at this
   cases hs : (s.find k c).isSome with
   | true => rw [hs] at this; simp at this
   | false => rfl
 · rw [hrun]
   have := hat .nil
   rw [← hD, hD1 c] at this
   obtain ⟨b, hb1, rfl⟩ := blkElem_inv hRv
   unfold waitD at this
   cases hs : (s.find k c).isSome with
   | true =>
     rw [hs] at this
     simp only [if_true, DataW.lit.injEq, Lit.int.injEq, true_and] at this
     have e : L.pb k (some c) = b := by omega
     simp only [if_true]; rw [hb1, e]; rfl
   | false => rw [hs] at this; simp at this
end Go.Proofs.YtajnfkmkombajaaGreatDoor
namespace Go.Proofs.YtajnfkmkombajaaGreatDoor
open Go.RowKit
def SS.partF (s : SS) (done : Int → Int → Bool) (f : WP → WP) : SS := ⟨s.P, s.W.map fun x => if done x.b x.c then f x else x⟩
def SS.sumF (s : SS) (done : Int → Int → Bool) (g : WP → Int) : Int := (s.W.map fun x => if done x.b x.c then g x else 0).sum
def SS.anyF (s : SS) (done : Int → Int → Bool) (p : WP → Bool) : Bool := s.W.any fun x => done x.b x.c && p x
def addD (done : Int → Int → Bool) (k c : Int) : Int → Int → Bool := fun b x => done b x || (b == k && x == c)
theorem addD_same (done : Int → Int → Bool) (k c : Int) : addD done k c k c = true := by simp [addD]
theorem addD_other {done : Int → Int → Bool} {k c b x : Int} (h : ¬ (b = k ∧ x = c)) : addD done k c b x = done b x := by
 unfold addD
 cases hd : done b x with
 | true => rfl
 | false =>
   simp only [Bool.false_or, Bool.and_eq_false_iff, beq_eq_false_iff_ne]
   by_cases e : b = k
   · exact .inr fun e' => h ⟨e, e'⟩
   · exact .inl e
section
variable {s : SS} {done : Int → Int → Bool} {f : WP → WP} {g : WP → Int} {p : WP → Bool}
theorem keepsKey {f : WP → WP} (hf : ∀ x, (f x).b = x.b ∧ (f x).c = x.c) (done : Int → Int → Bool) (x : WP) : ((fun x : WP => if done x.b x.c then f x else x) x).b = x.b ∧ ((fun x : WP => if done x.b x.c then f x else x) x).c = x.c := by
 simp only; split
 · exact hf x
 · exact ⟨rfl, rfl⟩
theorem SS.partF_none (h : ∀ x ∈ s.W, done x.b x.c = false) : s.partF done f = s := by
 unfold SS.partF
 rw [List.map_congr_left (g := id) (fun x hx => by rw [h x hx]; rfl)]; simp
theorem SS.sumF_none (h : ∀ x ∈ s.W, done x.b x.c = false) : s.sumF done g = 0 := by
 unfold SS.sumF
 rw [List.map_congr_left (g := fun _ => (0 : Int)) (fun x hx => by rw [h x hx]; rfl)]
 induction s.W with
 | nil => rfl
 | cons a r ih => simpa using ih
theorem SS.anyF_none (h : ∀ x ∈ s.W, done x.b x.c = false) : s.anyF done p = false := by
 unfold SS.anyF
 rw [List.any_eq_false]
 intro x hx; rw [h x hx]; simp
theorem SS.partF_all (h : ∀ x ∈ s.W, done x.b x.c = true) : s.partF done f = ⟨s.P, s.W.map f⟩ := by
 unfold SS.partF
 rw [List.map_congr_left (g := f) (fun x hx => by rw [h x hx]; rfl)]
theorem SS.sumF_all (h : ∀ x ∈ s.W, done x.b x.c = true) : s.sumF done g = (s.W.map g).sum := by
 unfold SS.sumF
 rw [List.map_congr_left (g := g) (fun x hx => by rw [h x hx]; rfl)]
theorem SS.anyF_all (h : ∀ x ∈ s.W, done x.b x.c = true) : s.anyF done p = s.W.any p := by
 unfold SS.anyF
 rw [Bool.eq_iff_iff, List.any_eq_true, List.any_eq_true]
 constructor
 · rintro ⟨x, hx, h2⟩; exact ⟨x, hx, by rw [h x hx] at h2; simpa using h2⟩
 · rintro ⟨x, hx, h2⟩; exact ⟨x, hx, by rw [h x hx]; simpa using h2⟩
theorem SS.find_partF (hf : ∀ x, (f x).b = x.b ∧ (f x).c = x.c) (k c : Int) : (s.partF done f).find k c = (s.find k c).map fun q => if done k c then (f ⟨k, c, q⟩).q else q := by
 unfold SS.partF SS.find
 simp only
 rw [find_map_same (keepsKey hf done)]
 cases hx : s.W.find? (·.at k c) with
 | none => rfl
 | some x =>
   obtain ⟨rfl, rfl⟩ := WP.at_iff.1 (List.find?_some (p := fun z : WP => z.at k c) hx)
   simp only [Option.map_some]
   split <;> rfl
theorem SS.Ok.partF (h : s.Ok) (hf : ∀ x, (f x).b = x.b ∧ (f x).c = x.c) (hq : ∀ x, x.q.Ok → (f x).q.Ok) : (s.partF done f).Ok :=
 h.mapW (keepsKey hf done) (fun x hx => by split; exact hq x hx; exact hx)
theorem SS.partF_get (hf : ∀ x, (f x).b = x.b ∧ (f x).c = x.c) {k : Nat} {c : Int} {q : QS} (hq : s.find k c = some q) : ∀ (j : Nat) (oc : Option Int), j < 3 →
   (j = k ∧ oc = some c → (s.partF (addD done k c) f).get j oc = some (f ⟨k, c, q⟩).q) ∧ (¬ (j = k ∧ oc = some c) → (s.partF (addD done k c) f).get j oc = (s.partF done f).get j oc) := by
 intro j oc hj
 refine ⟨?_, fun hne => ?_⟩
 · rintro ⟨rfl, rfl⟩
   show (s.partF (addD done j c) f).find j c = _
   rw [SS.find_partF hf, hq, addD_same]; rfl
 · cases oc with
   | none => rfl
   | some c' =>
     show (s.partF (addD done k c) f).find j c' = (s.partF done f).find j c'
     rw [SS.find_partF hf, SS.find_partF hf, addD_other]
     rintro ⟨e, rfl⟩
     exact hne ⟨by omega, rfl⟩
theorem SS.partF_got (hf : ∀ x, (f x).b = x.b ∧ (f x).c = x.c) {k : Nat} {c : Int} {q : QS} (hq : s.find k c = some q) (hd : done k c = false) : (s.partF done f).get k (some c) = some q := by
 show (s.partF done f).find k c = some q
 rw [SS.find_partF hf, hq, hd]; rfl
theorem sumL_add : ∀ (l : List WP) (k c : Int) (q : QS), (l.Pairwise fun x y => ¬ (x.b = y.b ∧ x.c = y.c)) → ⟨k, c, q⟩ ∈ l → done k c = false →
   (l.map fun x => if addD done k c x.b x.c then g x else 0).sum = (l.map fun x => if done x.b x.c then g x else 0).sum + g ⟨k, c, q⟩
 | [], _, _, _, _, h, _ => by cases h
 | x :: r, k, c, q, hp, h, hd => by
   obtain ⟨p1, p2⟩ := List.pairwise_cons.1 hp
   simp only [List.map_cons, List.sum_cons]
   rcases List.mem_cons.1 h with e | e
   · subst e
     have e2 : (r.map fun x => if addD done k c x.b x.c then g x else 0) = r.map fun x => if done x.b x.c then g x else 0 :=
       List.map_congr_left (fun y hy => by rw [addD_other]; rintro ⟨a, b⟩; exact p1 y hy ⟨a.symm, b.symm⟩)
     rw [e2]; simp only [addD_same, hd, if_true, Bool.false_eq_true, if_false]; omega
   · have e1 : addD done k c x.b x.c = done x.b x.c := addD_other (fun hat => p1 _ e ⟨hat.1, hat.2⟩)
     rw [sumL_add r k c q p2 e hd, e1]; omega
theorem SS.sumF_add (h : s.Ok) {k c : Int} {q : QS} (hq : s.find k c = some q) (hd : done k c = false) : s.sumF (addD done k c) g = s.sumF done g + g ⟨k, c, q⟩ :=
 sumL_add s.W k c q h.apart (SS.find_some hq) hd
theorem SS.anyF_add (h : s.Ok) {k c : Int} {q : QS} (hq : s.find k c = some q) : s.anyF (addD done k c) p = (s.anyF done p || p ⟨k, c, q⟩) := by
 unfold SS.anyF
 rw [Bool.eq_iff_iff]
 simp only [List.any_eq_true, Bool.and_eq_true, Bool.or_eq_true]
 have hm := SS.find_some hq
 constructor
 · rintro ⟨x, hx, h1, h2⟩
   by_cases e : x.b = k ∧ x.c = c
   · right
     obtain ⟨rfl, rfl⟩ := e
     have := SS.find_mem h.apart hx
     rw [hq] at this; cases this
     exact h2
   · rw [addD_other e] at h1
     exact .inl ⟨x, hx, h1, h2⟩
 · rintro (⟨x, hx, h1, h2⟩ | h2)
   · exact ⟨x, hx, by unfold addD; rw [h1]; rfl, h2⟩
   · exact ⟨_, hm, addD_same _ _ _, h2⟩
theorem SS.sumF_bd (h : s.Ok) (hg : ∀ x, x.q.Ok → 0 ≤ g x ∧ g x ≤ 1125899906842624) : 0 ≤ s.sumF done g ∧ s.sumF done g ≤ 1125899906842624 * (s.W.length : Int) := by
 unfold SS.sumF
 have : ∀ l : List WP, (∀ x ∈ l, x.q.Ok) → 0 ≤ (l.map fun x => if done x.b x.c then g x else 0).sum ∧ (l.map fun x => if done x.b x.c then g x else 0).sum ≤ 1125899906842624 * (l.length : Int) := by
   intro l hl
   induction l with
   | nil => simp
   | cons a r ih =>
     have h1 := ih (fun x hx => hl x (by simp [hx]))
     have h2 := hg a (hl a (by simp))
     simp only [List.map_cons, List.sum_cons, List.length_cons]
     split <;> omega
 exact this s.W (fun x hx => (h.waits x hx).1)
end
theorem SS.freeOp_of {s : SS} {o c : Int} (h1 : cycleC c = 0) (h2 : ownB o = true) : s.freeOp o c = if s.W.any (·.has o c) then ((s.W.map (·.gets o c)).sum, 0, ⟨s.P, s.W.map (·.left o c)⟩) else (0, 4, ⟨s.P, s.W.map (·.left o c)⟩) := by
 unfold SS.freeOp; rw [if_neg]; rintro (h | h)
 · exact h h1
 · rw [h2] at h; cases h
theorem WP.stuck {x : WP} {o c : Int} (h : x.free c = false) : x.left o c = x ∧ x.gets o c = 0 ∧ x.has o c = false := by
 unfold WP.left WP.gets WP.has; rw [h]; simp
theorem WP.goes {k c' : Int} {q : QS} {o c : Int} (h : (WP.mk k c' q).free c = true) : ((WP.mk k c' q).left o c).q = (q.leaveOp o).2.2 ∧ (WP.mk k c' q).gets o c = (if (q.leaveOp o).2.1 = 0 then (q.leaveOp o).1 else 0) ∧ (WP.mk k c' q).has o c = ((q.leaveOp o).2.1 == 0) := by
 unfold WP.left WP.gets WP.has; rw [h]; simp
theorem WP.gets_bd (o c : Int) (x : WP) (h : x.q.Ok) : 0 ≤ x.gets o c ∧ x.gets o c ≤ 1125899906842624 := by
 have := QS.leave_pos h o
 unfold WP.gets
 split
 · split <;> omega
 · omega
theorem WP.loses_bd (k f p : Int) (x : WP) (h : x.q.Ok) : 0 ≤ x.loses k f p ∧ x.loses k f p ≤ 1125899906842624 := by
 obtain ⟨_, h1, _⟩ := QS.slash_total h p
 unfold WP.loses
 split <;> omega
end Go.Proofs.YtajnfkmkombajaaGreatDoor
namespace Go.Proofs.YtajnfkmkombajaaGreatDoor
open Go.RowKit
def dn (k : Nat) (left : Lit → Bool) : Int → Int → Bool := fun b x => decide (b < (k : Int)) || (b == (k : Int) && !left (.int .i64 x))
def dk (k : Nat) : Int → Int → Bool := fun b _ => decide (b < (k : Int))
theorem dn_step (k : Nat) (left : Lit → Bool) (x : Int) : dn k (fun z => left z && !z.sameKey (.int .i64 x)) = addD (dn k left) k x := by
 funext b y
 have e : (Lit.int .i64 y).sameKey (.int .i64 x) = (y == x) := by
   by_cases h : y = x
   · subst h; simp [Lit.sameKey]
   · simp [Lit.sameKey, h]
 unfold dn addD
 simp only [e]
 cases decide (b < (k : Int)) <;> cases (b == (k : Int)) <;> cases left (.int .i64 y) <;> cases (y == x) <;> rfl
theorem dn_left {k : Nat} {left : Lit → Bool} {x : Int} (h : left (.int .i64 x) = true) : dn k left (k : Int) x = false := by
 unfold dn; simp [h]
theorem dn_end {k : Nat} {left : Lit → Bool} (h : ∀ kl, left kl = false) : dn k left = dk (k + 1) := by
 funext b y
 unfold dn dk
 rw [h]
 simp only [Bool.not_false, Bool.and_true]
 by_cases h1 : b < (k : Int)
 · rw [decide_eq_true h1, decide_eq_true (show b < ((k + 1 : Nat) : Int) by omega)]; rfl
 · rw [decide_eq_false h1]
   by_cases h2 : b = (k : Int)
   · rw [beq_iff_eq.2 h2, decide_eq_true (show b < ((k + 1 : Nat) : Int) by omega)]; rfl
   · rw [beq_eq_false_iff_ne.2 h2, decide_eq_false (show ¬ b < ((k + 1 : Nat) : Int) by omega)]; rfl
section
variable {s : SS} {g : WP → Int} {f : WP → WP} {p : WP → Bool}
theorem SS.sumF_congr {d1 d2 : Int → Int → Bool} (h : ∀ x ∈ s.W, d1 x.b x.c = d2 x.b x.c) : s.sumF d1 g = s.sumF d2 g := by
 unfold SS.sumF; rw [List.map_congr_left (fun x hx => by rw [h x hx])]
theorem SS.partF_congr {d1 d2 : Int → Int → Bool} (h : ∀ x ∈ s.W, d1 x.b x.c = d2 x.b x.c) : s.partF d1 f = s.partF d2 f := by
 unfold SS.partF; rw [List.map_congr_left (fun x hx => by rw [h x hx])]
theorem any_congr_left {l : List WP} {p q : WP → Bool} (h : ∀ x ∈ l, p x = q x) : l.any p = l.any q := by
 induction l with
 | nil => rfl
 | cons a r ih => rw [List.any_cons, List.any_cons, h a (by simp), ih (fun x hx => h x (by simp [hx]))]
theorem SS.anyF_congr {d1 d2 : Int → Int → Bool} (h : ∀ x ∈ s.W, d1 x.b x.c = d2 x.b x.c) : s.anyF d1 p = s.anyF d2 p := by
 unfold SS.anyF; exact any_congr_left (fun x hx => by rw [h x hx])
theorem SS.Ok.wb (h : s.Ok) {x : WP} (hx : x ∈ s.W) : 0 ≤ x.b ∧ x.b < 3 ∧ s.is x.b = true := by
 have h2 := (h.waits x hx).2.1
 have : ∃ q, s.pool x.b = some q := by
   unfold SS.is at h2
   cases hp : s.pool x.b with
   | none => rw [hp] at h2; cases h2
   | some q => exact ⟨q, rfl⟩
 obtain ⟨q, hq⟩ := this
 have := h.lt hq
 exact ⟨this.1, this.2, h2⟩
theorem dk_zero (h : s.Ok) : ∀ x ∈ s.W, dk 0 x.b x.c = false := fun x hx => by have := (h.wb hx).1; unfold dk; simp; omega
theorem dk_three (h : s.Ok) : ∀ x ∈ s.W, dk 3 x.b x.c = true := fun x hx => by have := (h.wb hx).2.1; unfold dk; simp; omega
theorem dk_skip (h : s.Ok) {k : Nat} (hi : s.is k = false) : ∀ x ∈ s.W, dk k x.b x.c = dk (k + 1) x.b x.c := fun x hx => by
 have h2 := (h.wb hx).2.2
 have hne : x.b ≠ (k : Int) := fun e => by rw [e, hi] at h2; cases h2
 unfold dk
 by_cases h1 : x.b < (k : Int)
 · rw [decide_eq_true h1, decide_eq_true (by omega)]
 · rw [decide_eq_false h1, decide_eq_false (by omega)]
end
end Go.Proofs.YtajnfkmkombajaaGreatDoor
