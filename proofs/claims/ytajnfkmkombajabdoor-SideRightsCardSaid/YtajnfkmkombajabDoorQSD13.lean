/-
  The company: the steps at a channel.
  The company: the steps at a channel, on.
  The company: a go statement; the close; nobody is stuck for ever; the whole.
-/
import Derived.Test.YtajnfkmkombajabDoorQSD12
set_option linter.unusedVariables false
set_option linter.unusedSimpArgs false
namespace Go.Proofs.YtajnfkmkombajabDoor
open Go Go.Conc Go.ConcN
open Go.ConcR (KK wgBlock WgAt stA smA Bk rd wr)
section
variable {P : Program} {F : Farm P} {N j : Nat} {gs : Array Goroutine} {w : World} {sl : Option (Nat × Nat)} {t : Trace} {D : Nat → WD' P} {Own Rd : Nat → Nat → Prop} {Sp got : Nat → Prop} {tag : CT'} {d0 : Nat} {lv0 : Lv P} {a : Goroutine} {st sm : Int} {cl : Bool} {s : Nat}
theorem Farm.CSit.selp_df {S M got : Nat → Prop} {nx rd d : Nat} {lv : Lv P} {g : Goroutine} {w : World} (h : F.CSit S M got (.selp nx rd) d lv g w) : d = 0 := by
 cases h with
 | selp _ _ => rfl
theorem who_offers (L : F.Law) (hR : ∀ S g w M, F.Ret S g w M → g.status = .running) (ha : gs[0]? = some a) (hcs : F.CSit (Rd 0) (Own 0) got tag d0 lv0 a w) (hcom : F.Com j gs w t D Own Rd Sp d0) {i c jj hk : Nat} {send : Bool} (h : (jj, hk) ∈ partners (gs.setIfInBounds i ph) c send) :
   jj ≠ i ∧ ((jj = 0 ∧ ∃ nx rd gc, tag = .selp nx rd ∧ rd < F.many ∧ F.Sel (Rd 0) nx rd got gc w (Own 0) ∧ a = parked gc (F.selC nx) .select ∧ ((hk = 0 ∧ c = F.Td ∧ send = true ∧ nx < F.many) ∨ (hk = 1 ∧ c = F.Bk ∧ send = false))) ∨
     ∃ i', i' < j ∧ jj = i' + 1 ∧ hk = 0 ∧ (((D i').st = 8 ∧ (D i').tk = none ∧ (D i').df = 0 ∧ c = F.Td ∧ send = false ∧ ∃ gw, F.Head (Rd (i' + 1)) gw w (Own (i' + 1)) ∧ gs[i' + 1]? = some (parked gw #[rcase F.Td F.z] (.recv true))) ∨
       ((D i').st = 10 ∧ (D i').df = 0 ∧ c = F.Bk ∧ send = true ∧ ∃ k v gw, (D i').tk = some k ∧ k < F.many ∧ F.Back (Rd (i' + 1)) k v gw w (Own (i' + 1)) ∧ gs[i' + 1]? = some (parked gw #[scase F.Bk v F.zc] .send)))) := by
 obtain ⟨x, hx, hkx⟩ := mem_partners.1 h
 rcases getElem?_stand gs i jj x hx with ⟨-, rfl⟩ | ⟨hne, hx⟩
 · rw [offersAt_ph] at hkx; cases hkx
 · refine ⟨hne, ?_⟩
   cases jj with
   | zero =>
     left
     obtain rfl : x = a := by rw [ha] at hx; exact (Option.some.inj hx).symm
     obtain ⟨nx, rd, g0, h1, h2, h3, h4, h5⟩ := hcs.offers L (hR _) hcom.inv c send hk hkx
     exact ⟨rfl, nx, rd, g0, h1, h2, h3, h4, h5⟩
   | succ i' =>
     right
     have hlt : i' < j := by have := (Array.getElem?_eq_some_iff.1 hx).1; rw [hcom.size] at this; omega
     obtain ⟨y, hy, hs⟩ := hcom.wk i' hlt
     obtain rfl : x = y := by rw [hx] at hy; exact Option.some.inj hy
     obtain ⟨h0, h⟩ := hs.offers L hcom.inv c send hk hkx
     refine ⟨i', hlt, rfl, h0, ?_⟩
     generalize (D i').st = z1 at *
     generalize (D i').tk = z2 at *
     generalize (D i').df = z3 at *
     generalize (D i').lv = z4 at *
     rcases h with ⟨h1, h2, h3, gw, h4, h5⟩ | ⟨h1, h2, h3, k, v, gw, h4, h5, h6, h7⟩
     · subst h1
       cases hs with
       | hpark _ => exact .inl ⟨rfl, rfl, rfl, h2, h3, gw, h4, by rw [hx, h5]⟩
     · subst h1
       cases hs with
       | bpark _ _ => exact .inr ⟨rfl, rfl, h2, h3, k, v, gw, h4, h5, h6, by rw [hx, h7]⟩
theorem mutes4 {j i c s : Nat} {f f' : FuncId} {p p' : String} (hi : i < j) {b : Bool} :
   Mutes j (if b then #[{ g := i + 1, fn := f, pos := p, act := .send c s }, { g := 0, fn := f', pos := p', act := .recv c s 0 }, { g := i + 1, fn := f, pos := p, act := .sendDone c s }, { g := 0, fn := f', pos := p', act := .recvDone c s }]
     else #[{ g := 0, fn := f, pos := p, act := .send c s }, { g := i + 1, fn := f', pos := p', act := .recv c s 0 }, { g := 0, fn := f, pos := p, act := .sendDone c s }, { g := i + 1, fn := f', pos := p', act := .recvDone c s }]) ∧
   ∀ op ∈ (if b then #[{ g := i + 1, fn := f, pos := p, act := .send c s }, { g := 0, fn := f', pos := p', act := .recv c s 0 }, { g := i + 1, fn := f, pos := p, act := .sendDone c s }, { g := 0, fn := f', pos := p', act := .recvDone c s }]
     else #[{ g := 0, fn := f, pos := p, act := .send c s }, { g := i + 1, fn := f', pos := p', act := .recv c s 0 }, { g := 0, fn := f, pos := p, act := .sendDone c s }, { g := i + 1, fn := f', pos := p', act := .recvDone c s }] : Array MemOp), op.g = 0 ∨ op.g = i + 1 := by
 refine ⟨fun op hop => ?_, fun op hop => ?_⟩ <;> cases b <;> simp at hop <;> rcases hop with rfl | rfl | rfl | rfl <;> simp [MemAct.touch?] <;> omega
theorem workerTakes (L : F.Law) (hR : ∀ S g w M, F.Ret S g w M → g.status = .running) (ha : gs[0]? = some a) (hcs : F.CSit (Rd 0) (Own 0) got tag d0 lv0 a w) (hcom : F.Com j gs w t D Own Rd Sp d0) (hwg : WgAt F.ty F.Wg w st sm) (htd : w.heap[F.Td]? = some (.chan 0 #[] false s s false))
   (hmode : Mode' j (stg D) tag st sm) (hph : F.Phase N j D tag got false) {i : Nat} (hi : i < j) {g g0 : Goroutine} (hg : gs[i + 1]? = some g) (hhead : F.Head (Rd (i + 1)) g0 w (Own (i + 1))) (h9 : (D i).st = 9) (htk : (D i).tk = none) (hdf : (D i).df = 0) (hst : stepG P false g w = stepG P false g0 w) :
   Went F N gs w sl t ⟨wt N F.many (Vs j (stg D)) tag + sumTo j (stg D), j + 1, vec lv0 D, flT tag⟩ (i + 1) := by
 have he : earlyT tag := Classical.byContradiction fun q => by have := (hph.post q).1; cases this
 have hcm := hst.trans (L.head_comm _ _ _ _ hhead hcom.inv)
 rcases meet_or_park (sl := sl) (i := i + 1) hg (by simpa using hcm) (fun cc hcc => by simp at hcc; subst hcc; exact .inr ⟨F.Td, s, s, false, rfl, htd⟩) with ⟨hno, hrun⟩ | ⟨k, cc, c, s1, r1, tm, jj, hk, d, hkc, hcc, hch, hp, hrun⟩
 · refine ⟨_, _, ⟨_, _, _, _⟩, hrun, ?_, _, w, sl, j, upd D i ⟨8, none, 0, (D i).lv⟩, Own, Rd, Sp, got, tag, d0, lv0, a, st, sm, false, s, rfl, by rw [Array.getElem?_setIfInBounds_ne (by omega)]; exact ha, hcs, ?_, hwg, htd, ?_, ?_, fun e => absurd he (by rw [e]; simp [earlyT]), rfl⟩
   · left
     have e2 : sumTo j (stg (upd D i ⟨8, none, 0, (D i).lv⟩)) + (D i).st = sumTo j (stg D) + 8 := by rw [stg_upd]; exact sumTo_upd (stg D) 8 id hi
     have e1 : Vs j (stg (upd D i ⟨8, none, 0, (D i).lv⟩)) + cntS (D i).st = Vs j (stg D) + cntS 8 := by rw [stg_upd]; exact Vs_upd (stg D) 8 hi
     have : Vs j (stg (upd D i ⟨8, none, 0, (D i).lv⟩)) = Vs j (stg D) := by rw [h9] at e1; simp [cntS] at e1; omega
     simp only
     rw [this]
     omega
   · rw [ofEvents_nil, Array.append_empty]
     exact hcom.parkW hi (d' := ⟨8, none, 0, (D i).lv⟩) (.hpark hhead) hdf.symm (by simp)
   · rw [stg_upd]
     exact hmode.counted hi (by simp only [stg]; omega) (by simp)
   · refine hph.parkW hi (by omega) he (.inl rfl) htk.symm fun nx rd e => ⟨by simp, fun hn => ?_⟩
     subst e
     exfalso
     have h2 := (hcs.gives L).1 hn
     have h3 := hno (rcase F.Td F.z) (by simp) F.Td rfl
     have : ((0 : Nat), (0 : Nat)) ∈ partners (gs.setIfInBounds (i + 1) ph) F.Td true := mem_partners.2 ⟨a, stand_get (by omega) ha, h2⟩
     simp only [rcase, Option.isNone_none] at h3
     rw [h3] at this
     cases this
 · have hk0 : k = 0 ∧ cc = rcase F.Td F.z := by
     match k, hkc with
     | 0, hkc => simp at hkc; exact ⟨rfl, hkc.symm⟩
     | k + 1, hkc => simp at hkc
   obtain ⟨rfl, rfl⟩ := hk0
   obtain rfl : F.Td = c := by simp [rcase] at hcc; exact hcc
   rw [htd] at hch
   simp at hch
   obtain ⟨rfl, rfl, rfl⟩ := hch
   obtain ⟨-, ⟨rfl, nx, rd, gc, rfl, hr, hsel, rfl, ⟨rfl, -, -, hn⟩ | ⟨-, q, -⟩⟩ | ⟨i', -, -, -, ⟨-, -, -, -, q, -⟩ | ⟨-, -, q, -⟩⟩⟩ := who_offers L hR ha hcs hcom hp
   · obtain rfl : d0 = 0 := hcs.selp_df
     have hfp := finishPartner_at P (gs.setIfInBounds (i + 1) ph) (stand_get (i := i + 1) (by omega) ha) (cs := F.selC nx) (sh := .select) rfl 0 undef
     have hgd : (gs.setIfInBounds (i + 1) ph).getD 0 default = parked gc (F.selC nx) .select := by rw [Array.getD_eq_getD_getElem?, stand_get (i := i + 1) (by omega) ha]; rfl
     have h00 : (F.selC nx)[0]? = some (scase F.Td (.int .i64 nx) F.zs) := by rw [L.sel_cases, if_pos hn]; rfl
     have hov : offeredValue (gs.setIfInBounds (i + 1) ph) 0 0 = .int .i64 nx := by simp [offeredValue, stand_get (i := i + 1) (by omega) ha, parked, h00, scase]
     rw [h00] at hfp
     simp only [Option.map_some, Option.getD_some, scase, Option.isNone_some] at hfp
     simp only [Met, rcase, hfp, hov, hgd, ofEvents_nil, Array.empty_append, finishComm_parked, finishComm_recv] at hrun
     rw [set_stand2] at hrun
     refine went_give L hcom hwg htd hmode hph (.inr rfl) hi hn hr htk hdf (.inr h9) hsel hhead hrun (by simp) (fun k h1 h2 => by rw [Array.getElem?_setIfInBounds_ne (by omega), Array.getElem?_setIfInBounds_ne (by omega)]) ?_ ?_ (mutes4 (b := false) hi).1 (mutes4 (b := false) hi).2
     · rw [Array.getElem?_setIfInBounds_ne (by omega), Array.getElem?_setIfInBounds_self_of_lt (by rw [hcom.size]; omega)]; rfl
     · rw [Array.getElem?_setIfInBounds_self_of_lt (by simp [hcom.size]; omega)]
   · exact absurd q L.blocks.2.2
   · simp [rcase] at q
   · exact absurd q L.blocks.2.2
end
end Go.Proofs.YtajnfkmkombajabDoor
namespace Go.Proofs.YtajnfkmkombajabDoor
open Go Go.Conc Go.ConcN
open Go.ConcR (KK wgBlock WgAt stA smA Bk rd wr)
section
variable {P : Program} {F : Farm P} {N j : Nat} {gs : Array Goroutine} {w : World} {sl : Option (Nat × Nat)} {t : Trace} {D : Nat → WD' P} {Own Rd : Nat → Nat → Prop} {Sp got : Nat → Prop} {tag : CT'} {d0 : Nat} {lv0 : Lv P} {a : Goroutine} {st sm : Int} {cl : Bool} {s : Nat}
theorem workerGives (L : F.Law) (hR : ∀ S g w M, F.Ret S g w M → g.status = .running) (ha : gs[0]? = some a) (hcs : F.CSit (Rd 0) (Own 0) got tag d0 lv0 a w) (hcom : F.Com j gs w t D Own Rd Sp d0) (hwg : WgAt F.ty F.Wg w st sm) (htd : w.heap[F.Td]? = some (.chan 0 #[] cl s s false))
   (hmode : Mode' j (stg D) tag st sm) (hph : F.Phase N j D tag got cl) {i : Nat} (hi : i < j) {g : Goroutine} (hg : gs[i + 1]? = some g) {k : Nat} {v : Value} (h11 : (D i).st = 11) (htk : (D i).tk = some k) (hdf : (D i).df = 0) (hkm : k < F.many) (hback : F.Back (Rd (i + 1)) k v g w (Own (i + 1))) :
   Went F N gs w sl t ⟨wt N F.many (Vs j (stg D)) tag + sumTo j (stg D), j + 1, vec lv0 D, flT tag⟩ (i + 1) := by
 have he : earlyT tag := Classical.byContradiction fun q => by have := ((hph.post q).2 i hi).2; rw [htk] at this; cases this
 obtain rfl : cl = false := (hph.pre he).1
 obtain ⟨s', hbk⟩ := hcom.inv.2.2
 have hcm := L.back_comm _ _ _ _ _ _ hback hcom.inv
 rcases meet_or_park (sl := sl) (i := i + 1) hg (by simpa using hcm) (fun cc hcc => by simp at hcc; subst hcc; exact .inr ⟨F.Bk, s', s', false, rfl, hbk⟩) with ⟨hno, hrun⟩ | ⟨k', cc, c, s1, r1, tm, jj, hk, d, hkc, hcc, hch, hp, hrun⟩
 · refine ⟨_, _, ⟨_, _, _, _⟩, hrun, ?_, _, w, sl, j, upd D i ⟨10, some k, 0, (D i).lv⟩, Own, Rd, Sp, got, tag, d0, lv0, a, st, sm, false, s, rfl, by rw [Array.getElem?_setIfInBounds_ne (by omega)]; exact ha, hcs, ?_, hwg, htd, ?_, ?_, fun e => absurd he (by rw [e]; simp [earlyT]), rfl⟩
   · left
     have e2 : sumTo j (stg (upd D i ⟨10, some k, 0, (D i).lv⟩)) + (D i).st = sumTo j (stg D) + 10 := by rw [stg_upd]; exact sumTo_upd (stg D) 10 id hi
     have e1 : Vs j (stg (upd D i ⟨10, some k, 0, (D i).lv⟩)) + cntS (D i).st = Vs j (stg D) + cntS 10 := by rw [stg_upd]; exact Vs_upd (stg D) 10 hi
     have : Vs j (stg (upd D i ⟨10, some k, 0, (D i).lv⟩)) = Vs j (stg D) := by rw [h11] at e1; simp [cntS] at e1; omega
     simp only
     rw [this]
     omega
   · rw [ofEvents_nil, Array.append_empty]
     exact hcom.parkW hi (d' := ⟨10, some k, 0, (D i).lv⟩) (.bpark hkm hback) hdf.symm (by simp)
   · rw [stg_upd]
     exact hmode.counted hi (by simp only [stg]; omega) (by simp)
   · refine hph.parkW hi (by omega) he (.inr rfl) htk.symm fun nx rd e => ?_
     subst e
     exfalso
     have h2 := (hcs.gives L).2
     have h3 := hno (scase F.Bk v F.zc) (by simp) F.Bk rfl
     have : ((0 : Nat), (1 : Nat)) ∈ partners (gs.setIfInBounds (i + 1) ph) F.Bk false := mem_partners.2 ⟨a, stand_get (by omega) ha, h2⟩
     simp only [scase, Option.isNone_some] at h3
     rw [h3] at this
     cases this
 · have hk0 : k' = 0 ∧ cc = scase F.Bk v F.zc := by
     match k', hkc with
     | 0, hkc => simp at hkc; exact ⟨rfl, hkc.symm⟩
     | k' + 1, hkc => simp at hkc
   obtain ⟨rfl, rfl⟩ := hk0
   obtain rfl : F.Bk = c := by simp [scase] at hcc; exact hcc
   rw [hbk] at hch
   simp at hch
   obtain ⟨rfl, rfl, rfl⟩ := hch
   obtain ⟨-, ⟨rfl, nx, rd, gc, rfl, hr, hsel, rfl, ⟨-, q, -⟩ | ⟨rfl, -, -⟩⟩ | ⟨i', -, -, -, ⟨-, -, -, q, -⟩ | ⟨-, -, -, q, -⟩⟩⟩ := who_offers L hR ha hcs hcom hp
   · exact absurd q.symm L.blocks.2.2
   · obtain rfl : d0 = 0 := hcs.selp_df
     have hfp := finishPartner_at P (gs.setIfInBounds (i + 1) ph) (stand_get (i := i + 1) (by omega) ha) (cs := F.selC nx) (sh := .select) rfl 1 v
     have hgd : (gs.setIfInBounds (i + 1) ph).getD 0 default = parked gc (F.selC nx) .select := by rw [Array.getD_eq_getD_getElem?, stand_get (i := i + 1) (by omega) ha]; rfl
     have h01 : (F.selC nx)[1]? = some (rcase F.Bk F.zb) := by rw [L.sel_cases]; by_cases hn : nx < F.many <;> simp [hn]
     rw [h01] at hfp
     simp only [Option.map_some, Option.getD_some, rcase, Option.isNone_none] at hfp
     simp only [Met, scase, hfp, hgd, ofEvents_nil, Array.empty_append, finishComm_parked, finishComm_send] at hrun
     rw [set_stand2] at hrun
     refine went_get L hcom hwg htd hmode hph (.inr rfl) hi hr htk hkm hdf (.inr h11) hsel hback hbk hrun (by simp) (fun k h1 h2 => by rw [Array.getElem?_setIfInBounds_ne (by omega), Array.getElem?_setIfInBounds_ne (by omega)]) ?_ ?_ (mutes4 (b := true) hi).1 (mutes4 (b := true) hi).2 ⟨_, _, rfl, ⟨rfl, rfl⟩, rfl, rfl, rfl⟩
     · rw [Array.getElem?_setIfInBounds_ne (by omega), Array.getElem?_setIfInBounds_self_of_lt (by rw [hcom.size]; omega)]; rfl
     · rw [Array.getElem?_setIfInBounds_self_of_lt (by simp [hcom.size]; omega)]
   · exact absurd q.symm L.blocks.2.2
   · simp [scase] at q
theorem workerShut (L : F.Law) (hR : ∀ S g w M, F.Ret S g w M → g.status = .running) (ha : gs[0]? = some a) (hcs : F.CSit (Rd 0) (Own 0) got tag d0 lv0 a w) (hcom : F.Com j gs w t D Own Rd Sp d0) (hwg : WgAt F.ty F.Wg w st sm) (htd : w.heap[F.Td]? = some (.chan 0 #[] true s s false))
   (hmode : Mode' j (stg D) tag st sm) (hph : F.Phase N j D tag got true) {i : Nat} (hi : i < j) {g g0 : Goroutine} (hg : gs[i + 1]? = some g) (hhead : F.Head (Rd (i + 1)) g0 w (Own (i + 1))) (h9 : (D i).st = 9) (htk : (D i).tk = none) (hdf : (D i).df = 0) (hst : stepG P false g w = stepG P false g0 w) :
   Went F N gs w sl t ⟨wt N F.many (Vs j (stg D)) tag + sumTo j (stg D), j + 1, vec lv0 D, flT tag⟩ (i + 1) := by
 have he : ¬ earlyT tag := fun q => by have := (hph.pre q).1; cases this
 have hcm := hst.trans (L.head_comm _ _ _ _ hhead hcom.inv)
 have hp : partners (gs.setIfInBounds (i + 1) ph) F.Td true = [] := by
   apply List.eq_nil_iff_forall_not_mem.2
   rintro ⟨jj, hk⟩ hm
   obtain ⟨-, ⟨-, nx, rd, gc, q, -⟩ | ⟨i', -, -, -, ⟨-, -, -, -, q, -⟩ | ⟨-, -, q, -⟩⟩⟩ := who_offers L hR ha hcs hcom hm
   · exact he (by rw [q]; trivial)
   · cases q
   · exact L.blocks.2.2 q
 have hrun := crowd_recv_closed (sl := sl) (i := i + 1) hg (by simpa using hcm) htd hp
 rw [ofEvents_nil, Array.empty_append, finishComm_recv] at hrun
 have hu : Mutes j #[({ g := i + 1, fn := g0.frame.fn, pos := g0.frame.place, act := .recvClosed F.Td } : MemOp)] := by
   intro op hop; simp at hop; subst hop; exact ⟨rfl, by simp only; omega, by simp⟩
 refine ⟨_, _, ⟨_, _, _, _⟩, hrun, ?_, _, w, sl, j, upd D i ⟨7, none, 0, .on ⟨false, F.I, Rd (i + 1), F.R0 (Rd (i + 1)), _, w, Own (i + 1)⟩⟩, Own, Rd, Sp, got, tag, d0, lv0, a, st, sm, true, s, rfl, by rw [Array.getElem?_setIfInBounds_ne (by omega)]; exact ha, hcs,
   hcom.meet L hi (by simp) (fun k h1 h2 => by rw [Array.getElem?_setIfInBounds_ne (by omega)]) (by rw [Array.getElem?_setIfInBounds_self_of_lt (by rw [hcom.size]; omega)]) (Spec.refl Sp w) hcom.inv hcom.lay (hcom.tr.mutes hu) hu (by intro op hop; simp at hop; subst hop; exact .inr rfl) (fun _ _ _ => rfl) (.r0 (Way.new (L.head_end _ _ _ _ hhead hcom.inv))) hdf.symm (by simp), hwg, htd, ?_, hph.late he (by simp) rfl, fun e i' hi' => absurd e (hmode.not_ret hi (by simp only [stg]; omega)), rfl⟩
 · left
   generalize hd : (⟨7, none, 0, .on ⟨false, F.I, Rd (i + 1), F.R0 (Rd (i + 1)), Go.Conc.served g0 (recvd true F.z false), w, Own (i + 1)⟩⟩ : WD' P) = dd
   have hs7 : dd.st = 7 := by rw [← hd]
   have e2 : sumTo j (stg (upd D i dd)) + (D i).st = sumTo j (stg D) + 7 := by rw [stg_upd, hs7]; exact sumTo_upd (stg D) 7 id hi
   have e1 : Vs j (stg (upd D i dd)) + cntS (D i).st = Vs j (stg D) + cntS 7 := by rw [stg_upd, hs7]; exact Vs_upd (stg D) 7 hi
   have : Vs j (stg (upd D i dd)) = Vs j (stg D) := by rw [h9] at e1; simp [cntS] at e1; omega
   simp only
   rw [this]
   omega
 · rw [stg_upd]
   exact hmode.counted hi (by simp only [stg]; omega) (by simp)
theorem callerSel (L : F.Law) (hR : ∀ S g w M, F.Ret S g w M → g.status = .running) {nx rd : Nat} (ha : gs[0]? = some a) (hcs : F.CSit (Rd 0) (Own 0) got (.sel nx rd) 0 lv0 a w) (hcom : F.Com j gs w t D Own Rd Sp 0) (hwg : WgAt F.ty F.Wg w st sm) (htd : w.heap[F.Td]? = some (.chan 0 #[] cl s s false))
   (hmode : Mode' j (stg D) (.sel nx rd) st sm) (hph : F.Phase N j D (.sel nx rd) got cl) (hr : rd < F.many) (hsel : F.Sel (Rd 0) nx rd got a w (Own 0)) :
   Went F N gs w sl t ⟨wt N F.many (Vs j (stg D)) (.sel nx rd) + sumTo j (stg D), j + 1, vec lv0 D, flT (.sel nx rd)⟩ 0 := by
 obtain rfl : cl = false := (hph.pre trivial).1
 obtain ⟨s', hbk⟩ := hcom.inv.2.2
 have hcm := L.sel_comm _ _ _ _ _ _ _ hsel hcom.inv
 have hcases : ∀ k cc, (F.selC nx)[k]? = some cc → (k = 0 ∧ nx < F.many ∧ cc = scase F.Td (.int .i64 nx) F.zs) ∨ (k = 0 ∧ cc.chan = .chan none) ∨ (k = 1 ∧ cc = rcase F.Bk F.zb) := by
   intro k cc hk
   rw [L.sel_cases] at hk
   by_cases hn : nx < F.many
   · rw [if_pos hn] at hk
     match k, hk with
     | 0, hk => simp at hk; exact .inl ⟨rfl, hn, hk.symm⟩
     | 1, hk => simp at hk; exact .inr (.inr ⟨rfl, hk.symm⟩)
     | k + 2, hk => simp at hk
   · rw [if_neg hn] at hk
     match k, hk with
     | 0, hk => simp at hk; subst hk; exact .inr (.inl ⟨rfl, rfl⟩)
     | 1, hk => simp at hk; exact .inr (.inr ⟨rfl, hk.symm⟩)
     | k + 2, hk => simp at hk
 have hopen : ∀ cc ∈ F.selC nx, OpenCase w cc := fun cc hcc => by
   obtain ⟨k, hk⟩ := Array.mem_iff_getElem?.1 hcc
   rcases hcases k cc hk with ⟨-, -, rfl⟩ | ⟨-, q⟩ | ⟨-, rfl⟩
   · exact .inr ⟨F.Td, s, s, false, rfl, htd⟩
   · exact .inl q
   · exact .inr ⟨F.Bk, s', s', false, rfl, hbk⟩
 rcases meet_or_park (sl := sl) (i := 0) ha (by simpa using hcm) hopen with ⟨hno, hrun⟩ | ⟨k', cc, c, s1, r1, tm, jj, hk, d, hkc, hcc, hch, hp, hrun⟩
 · refine ⟨_, _, ⟨_, _, _, _⟩, hrun, ?_, _, w, sl, j, D, Own, Rd, Sp, got, .selp nx rd, 0, lv0, _, st, sm, false, s, rfl, by rw [Array.getElem?_setIfInBounds_self_of_lt (by rw [hcom.size]; omega)], .selp hr hsel, ?_, hwg, htd, hmode.openT trivial trivial rfl (by simp), ?_, by simp, rfl⟩
   · left; simp only [wt]; omega
   · rw [ofEvents_nil, Array.append_empty]
     exact hcom.park0
   · refine ⟨fun _ => hph.pre trivial, fun q => absurd trivial q, by simp, fun _ => hph.full (by simp), fun nx' rd' e => ?_, fun nx' rd' e => ?_⟩
     · simp at e
       obtain ⟨rfl, rfl⟩ := e
       exact hph.sel _ _ (.inl rfl)
     · simp at e
       obtain ⟨rfl, rfl⟩ := e
       refine ⟨hr, fun i hi => ?_⟩
       obtain ⟨x, hx, hs⟩ := hcom.wk i hi
       have hx' := stand_get (i := 0) (by omega) hx
       refine ⟨fun q => ?_, fun hn q => ?_⟩
       · rw [q] at hs
         have h3 := hno (rcase F.Bk F.zb) (Array.mem_of_getElem? (i := 1) (by rw [L.sel_cases]; by_cases hn : nx < F.many <;> simp [hn])) F.Bk rfl
         have : (i + 1, (0 : Nat)) ∈ partners (gs.setIfInBounds 0 ph) F.Bk true := mem_partners.2 ⟨x, hx', hs.gives10⟩
         simp only [rcase, Option.isNone_none] at h3
         rw [h3] at this
         cases this
       · rw [q] at hs
         have h3 := hno (scase F.Td (.int .i64 nx) F.zs) (Array.mem_of_getElem? (i := 0) (by rw [L.sel_cases]; simp [hn])) F.Td rfl
         have : (i + 1, (0 : Nat)) ∈ partners (gs.setIfInBounds 0 ph) F.Td false := mem_partners.2 ⟨x, hx', hs.gives8⟩
         simp only [scase, Option.isNone_some] at h3
         rw [h3] at this
         cases this
 · rcases hcases k' cc hkc with ⟨rfl, hn, rfl⟩ | ⟨-, q⟩ | ⟨rfl, rfl⟩
   · obtain rfl : F.Td = c := by simp [scase] at hcc; exact hcc
     rw [htd] at hch
     simp at hch
     obtain ⟨rfl, rfl, rfl⟩ := hch
     obtain ⟨hne, ⟨q, -⟩ | ⟨i, hi, rfl, rfl, ⟨h8, htk, hdf, -, -, gw, hhead, hgw⟩ | ⟨-, -, q, -⟩⟩⟩ := who_offers L hR ha hcs hcom hp
     · exact absurd q hne
     · have hfp := finishPartner_at P (gs.setIfInBounds 0 ph) (stand_get (i := 0) (by omega) hgw) (cs := #[rcase F.Td F.z]) (sh := .recv true) rfl 0 (.int .i64 nx)
       have hgd : (gs.setIfInBounds 0 ph).getD (i + 1) default = parked gw #[rcase F.Td F.z] (.recv true) := by rw [Array.getD_eq_getD_getElem?, stand_get (i := 0) (by omega) hgw]; rfl
       simp only [List.getElem?_toArray, List.getElem?_cons_zero, Option.map_some, Option.getD_some, rcase, Option.isNone_none] at hfp
       simp only [Met, scase, hfp, hgd, ofEvents_nil, Array.empty_append, finishComm_recv] at hrun
       rw [set_stand2] at hrun
       refine went_give L hcom hwg htd hmode hph (.inl rfl) hi hn hr htk hdf (.inl h8) hsel hhead hrun (by simp) (fun k h1 h2 => by rw [Array.getElem?_setIfInBounds_ne (by omega), Array.getElem?_setIfInBounds_ne (by omega)]) ?_ ?_ (mutes4 (b := false) hi).1 (mutes4 (b := false) hi).2
       · rw [Array.getElem?_setIfInBounds_self_of_lt (by simp [hcom.size])]; rfl
       · rw [Array.getElem?_setIfInBounds_ne (by omega), Array.getElem?_setIfInBounds_self_of_lt (by rw [hcom.size]; omega)]; rfl
     · exact absurd q L.blocks.2.2
   · rw [q] at hcc; cases hcc
   · obtain rfl : F.Bk = c := by simp [rcase] at hcc; exact hcc
     rw [hbk] at hch
     simp at hch
     obtain ⟨rfl, rfl, rfl⟩ := hch
     obtain ⟨hne, ⟨q, -⟩ | ⟨i, hi, rfl, rfl, ⟨-, -, -, q, -⟩ | ⟨h10, hdf, -, -, k, v, gw, htk, hkm, hback, hgw⟩⟩⟩ := who_offers L hR ha hcs hcom hp
     · exact absurd q hne
     · exact absurd q.symm L.blocks.2.2
     · have hfp := finishPartner_at P (gs.setIfInBounds 0 ph) (stand_get (i := 0) (by omega) hgw) (cs := #[scase F.Bk v F.zc]) (sh := .send) rfl 0 undef
       have hgd : (gs.setIfInBounds 0 ph).getD (i + 1) default = parked gw #[scase F.Bk v F.zc] .send := by rw [Array.getD_eq_getD_getElem?, stand_get (i := 0) (by omega) hgw]; rfl
       have hov : offeredValue (gs.setIfInBounds 0 ph) (i + 1) 0 = v := by simp [offeredValue, stand_get (i := 0) (by omega) hgw, parked, scase]
       simp only [List.getElem?_toArray, List.getElem?_cons_zero, Option.map_some, Option.getD_some, scase, Option.isNone_some] at hfp
       simp only [Met, rcase, hfp, hov, hgd, ofEvents_nil, Array.empty_append, finishComm_send] at hrun
       rw [set_stand2] at hrun
       refine went_get L hcom hwg htd hmode hph (.inl rfl) hi hr htk hkm hdf (.inl h10) hsel hback hbk hrun (by simp) (fun k h1 h2 => by rw [Array.getElem?_setIfInBounds_ne (by omega), Array.getElem?_setIfInBounds_ne (by omega)]) ?_ ?_ (mutes4 (b := true) hi).1 (mutes4 (b := true) hi).2 ⟨_, _, rfl, ⟨rfl, rfl⟩, rfl, rfl, rfl⟩
       · rw [Array.getElem?_setIfInBounds_self_of_lt (by simp [hcom.size])]; rfl
       · rw [Array.getElem?_setIfInBounds_ne (by omega), Array.getElem?_setIfInBounds_self_of_lt (by rw [hcom.size]; omega)]; rfl
end
end Go.Proofs.YtajnfkmkombajabDoor
namespace Go.Proofs.YtajnfkmkombajabDoor
open Go Go.Conc Go.ConcN
open Go.ConcR (KK wgBlock WgAt stA smA Bk rd wr)
theorem sumTo_le_add {f g : Nat → Nat} : ∀ {j : Nat}, (∀ i, i < j → f i ≤ g i + 1) → sumTo j f ≤ sumTo j g + j
 | 0, _ => by simp [sumTo]
 | j + 1, h => by
   have := sumTo_le_add (f := f) (g := g) (j := j) fun i hi => h i (by omega)
   have := h j (by omega)
   simp only [sumTo]; omega
theorem tks_zero {P : Program} {D : Nat → WD' P} {j : Nat} (h : tks j D = 0) : ∀ i, i < j → (D i).tk = none := fun i hi => by
 have h2 : (if (D i).tk.isSome then 1 else 0) ≤ tks j D := le_sumTo (f := fun x => if (D x).tk.isSome then 1 else 0) hi
 cases hh : (D i).tk with
 | none => rfl
 | some x => rw [hh] at h2; simp at h2; omega
theorem tks_none {P : Program} {D : Nat → WD' P} {j : Nat} (h : ∀ i, i < j → (D i).tk = none) : tks j D = 0 := by
 have : tks j D = sumTo j fun _ => 0 := sumTo_congr fun i hi => by rw [h i hi]; rfl
 rw [this]
 clear this h
 induction j with
 | zero => rfl
 | succ j ih => simp only [sumTo, ih]
section
variable {P : Program} {F : Farm P} {N j : Nat} {gs : Array Goroutine} {w : World} {sl : Option (Nat × Nat)} {t : Trace} {D : Nat → WD' P} {Own Rd : Nat → Nat → Prop} {Sp got : Nat → Prop} {tag : CT'} {d0 : Nat} {lv0 : Lv P} {a : Goroutine} {st sm : Int} {cl : Bool} {s : Nat}
theorem callerShuts (L : F.Law) {nx rd : Nat} (ha : gs[0]? = some a) (hcom : F.Com j gs w t D Own Rd Sp 0) (hwg : WgAt F.ty F.Wg w st sm) (htd : w.heap[F.Td]? = some (.chan 0 #[] cl s s false))
   (hmode : Mode' j (stg D) (.sel nx rd) st sm) (hph : F.Phase N j D (.sel nx rd) got cl) (hr : rd = F.many) (hcl : F.Cl (Rd 0) a w (Own 0)) :
   Went F N gs w sl t ⟨wt N F.many (Vs j (stg D)) (.sel nx rd) + sumTo j (stg D), j + 1, vec lv0 D, flT (.sel nx rd)⟩ 0 := by
 obtain rfl : cl = false := (hph.pre trivial).1
 obtain ⟨-, hmw, hgo⟩ := hcl
 obtain ⟨g', hgo, hk⟩ := hgo s htd
 obtain ⟨q1, q2, q3, q4, q5⟩ := hph.sel nx rd (.inl rfl)
 have hno := tks_zero (D := D) (j := j) (by omega)
 have hfull := hph.full (by simp)
 have hsp : Spec Sp w (w.setChan F.Td 0 #[] true s s false) := spec_chan (w := w) hcom.spc.2.1 w.drawn
 have htd' : (w.setChan F.Td 0 #[] true s s false).heap[F.Td]? = some (.chan 0 #[] true s s false) := chan_same htd w.drawn
 have hwg' : WgAt F.ty F.Wg (w.setChan F.Td 0 #[] true s s false) st sm := hwg.of_block (chan_other (w := w) L.blocks.1 w.drawn)
 obtain ⟨s', hbk⟩ := hcom.inv.2.2
 have hbk' : (w.setChan F.Td 0 #[] true s s false).heap[F.Bk]? = some (.chan 0 #[] false s' s' false) := (chan_other (w := w) L.blocks.2.2.symm w.drawn).trans hbk
 have hI' : F.I (w.setChan F.Td 0 #[] true s s false) := ⟨⟨_, _, hwg'⟩, ⟨_, _, htd'⟩, ⟨_, hbk'⟩⟩
 have hg' : g'.status = .running := (Way.new hk).running hI' fun _ _ _ q => q.1
 have hrun := runT_crowd_go (P := P) (sl := sl) (i := 0) ha (by simpa using hgo)
 generalize (w.setChan F.Td 0 #[] true s s false) = w' at *
 have hops : MemOp.ofEvents 0 a.frame.fn a.frame.place #[⟨.obj F.Td, false, true⟩, ⟨.obj F.Td, true, true⟩] = #[{ g := 0, fn := a.frame.fn, pos := a.frame.place, act := .access ⟨.obj F.Td, false, true⟩ }, { g := 0, fn := a.frame.fn, pos := a.frame.place, act := .close F.Td }] := by rw [ofEvents_eq]; simp [MemAct.ofEvent]
 have hacc : MemOp.ofEvents 0 a.frame.fn a.frame.place #[⟨.obj F.Td, false, true⟩] = #[{ g := 0, fn := a.frame.fn, pos := a.frame.place, act := .access ⟨.obj F.Td, false, true⟩ }] := by rw [ofEvents_eq]; simp [MemAct.ofEvent]
 have hcom1 : F.Com j gs w (t ++ MemOp.ofEvents 0 a.frame.fn a.frame.place #[⟨.obj F.Td, false, true⟩]) D Own Rd Sp 0 := by
   refine ⟨hcom.size, hcom.inv, hcom.lay, hcom.spc, Tr.app0 hcom.lay hcom.tr (fun op hop => ?_) (fun op hop x b hx hb => ?_) (fun op hop r => ?_), hcom.wk, hcom.rdsub, ?_, fun i hi => ?_, fun i hi hst => ?_⟩
   · rw [hacc] at hop; simp at hop; subst hop
     refine ⟨rfl, fun x hx => .inl ?_⟩
     simp only [MemAct.touch?, Option.some.injEq] at hx
     subst hx
     exact ⟨⟨F.Td, rfl, hcom.spc.2.1⟩, by simp⟩
   · rw [hacc] at hop; simp at hop; subst hop
     simp only [MemAct.touch?, Option.some.injEq] at hx
     subst hx
     simp only [blk, Option.some.injEq] at hb
     subst hb
     exact hcom.lay.spB _ hcom.spc.2.1
   · rw [hacc] at hop; simp at hop; subst hop; simp
   · rw [Deaf_own, hcom.deaf0]; rfl
   · rw [Deaf_other t (by omega) _ Go.ConcR.g_of_ofEvents]; exact hcom.deafW i hi
   · have hno : ∀ op ∈ MemOp.ofEvents 0 a.frame.fn a.frame.place #[⟨.obj F.Td, false, true⟩], op.g ≠ i + 1 := fun op hop => by rw [Go.ConcR.g_of_ofEvents op hop]; omega
     exact (hcom.rel i hi hst).imp (fun ⟨r, hr⟩ => ⟨r, hr.appNot hno⟩) fun q => q.not hno
 rw [hacc] at hcom1
 have happ : t ++ (#[{ g := 0, fn := a.frame.fn, pos := a.frame.place, act := .access ⟨.obj F.Td, false, true⟩ }, { g := 0, fn := a.frame.fn, pos := a.frame.place, act := .close F.Td }] : Trace) = (t ++ (#[{ g := 0, fn := a.frame.fn, pos := a.frame.place, act := .access ⟨.obj F.Td, false, true⟩ }] : Trace)) ++ (#[{ g := 0, fn := a.frame.fn, pos := a.frame.place, act := .close F.Td }] : Trace) := by rw [Array.append_assoc]; rfl
 rw [hops] at hrun
 have hu : Mutes j #[({ g := 0, fn := a.frame.fn, pos := a.frame.place, act := .close F.Td } : MemOp)] := by
   intro op hop; simp at hop; subst hop; exact ⟨rfl, by simp, by simp⟩
 let D' : Nat → WD' P := fun i => if (D i).st = 8 then ⟨9, (D i).tk, (D i).df, (D i).lv⟩ else D i
 have hD : ∀ i, (D' i).tk = (D i).tk ∧ (D' i).df = (D i).df ∧ (D' i).lv = (D i).lv ∧ ((D i).st = 8 → (D' i).st = 9) ∧ ((D i).st ≠ 8 → (D' i).st = (D i).st) := fun i => by
   by_cases e : (D i).st = 8 <;> simp [D', e]
 have hcnt : ∀ i, cntS (stg D' i) = cntS (stg D i) := fun i => by
   obtain ⟨-, -, -, h8, h9⟩ := hD i
   simp only [stg]
   by_cases e : (D i).st = 8
   · rw [h8 e, e]; rfl
   · rw [h9 e]
 have hVs : Vs j (stg D') = Vs j (stg D) := sumTo_congr fun i _ => hcnt i
 have hsum : sumTo j (stg D') ≤ sumTo j (stg D) + j := sumTo_le_add fun i _ => by
   obtain ⟨-, -, -, h8, h9⟩ := hD i
   simp only [stg]
   by_cases e : (D i).st = 8
   · have := h8 e; omega
   · rw [h9 e]; omega
 refine ⟨_, _, ⟨_, _, _, _⟩, hrun, ?_, _, w', sl, j, D', Own, Rd, Sp, got, .kd, 0, .on ⟨true, F.I, Rd 0, F.Kd (Rd 0), g', w', Own 0⟩, g', st, sm, true, s, rfl, get_map_set_same _ _ _ (by rw [hcom.size]; omega), .kd (Way.new hk), ?_, hwg', htd', ?_, ?_, by simp, rfl⟩
 · left
   simp only [wt]
   omega
 · refine ⟨by simp [hcom.size], hI', by rw [hsp.size]; exact hcom.lay, hcom.spc, by rw [hsp.size, happ]; exact hcom1.tr.mutes hu, fun i hi => ?_, hcom.rdsub, by rw [happ, Deaf_mutes hu, hcom1.deaf0], fun i hi => by rw [happ, Deaf_mutes hu, hcom1.deafW i hi, (hD i).2.1], fun i hi hst => ?_⟩
   · obtain ⟨x, hx, hs⟩ := hcom.wk i hi
     refine ⟨_, by rw [get_map_set _ _ _ _ (by omega), hx, Option.map_some], ?_⟩
     obtain ⟨st', hs', -, -, h2, h3⟩ := hs.woken_shut L hcom.inv (hcom.turned hsp _ (by omega)) hI' a g' htd' hbk' hmw hg'
     obtain ⟨e1, e2, e3, e8, e9⟩ := hD i
     rw [e1, e2, e3]
     by_cases e : (D i).st = 8
     · rw [e8 e, ← h3 e]; exact hs'
     · rw [e9 e, ← h2 e]; exact hs'
   · have hst' : (D i).st ≤ 6 := by
       obtain ⟨-, -, -, e8, e9⟩ := hD i
       by_cases e : (D i).st = 8
       · rw [e8 e] at hst; omega
       · rw [e9 e] at hst; exact hst
     have hno : ∀ op ∈ #[({ g := 0, fn := a.frame.fn, pos := a.frame.place, act := .close F.Td } : MemOp)], op.g ≠ i + 1 := by intro op hop; simp at hop; subst hop; simp
     rw [happ]
     exact (hcom1.rel i hi hst').imp (fun ⟨r, hr⟩ => ⟨r, hr.appNot hno⟩) fun q => q.not hno
 · obtain ⟨hop, e1, e2⟩ := hmode.at_open trivial
   rw [e1, e2]
   have : ((Vs j (stg D) + pendT (.sel nx rd) : Nat) : Int) * KK = ((Vs j (stg D') + pendT .kd : Nat) : Int) * KK := by rw [hVs]; rfl
   rw [this]
   refine .opn trivial (fun i hi => ?_) (by simp)
   obtain ⟨-, -, -, e8, e9⟩ := hD i
   simp only [stg]
   by_cases e : (D i).st = 8
   · rw [e8 e]; exact .inl (by omega)
   · rw [e9 e]; exact hop i hi
 · refine ⟨fun q => q.elim, fun _ => ⟨rfl, fun i hi => ?_⟩, by simp, fun _ => hfull, by simp, by simp⟩
   obtain ⟨e1, -, -, e8, e9⟩ := hD i
   refine ⟨?_, by rw [e1]; exact hno i hi⟩
   by_cases e : (D i).st = 8
   · rw [e8 e]; omega
   · rw [e9 e]; exact e
theorem callerStarts (L : F.Law) {r : Nat} (ha : gs[0]? = some a) (hcom : F.Com j gs w t D Own Rd Sp 0) (hwg : WgAt F.ty F.Wg w st sm) (htd : w.heap[F.Td]? = some (.chan 0 #[] cl s s false))
   (hmode : Mode' j (stg D) (.sp r 2) st sm) (hph : F.Phase N j D (.sp r 2) got cl) (hgoS : F.GoS (F.Starts r) (Rd 0) a w (Own 0)) :
   Went F N gs w sl t ⟨wt N F.many (Vs j (stg D)) (.sp r 2) + sumTo j (stg D), j + 1, vec lv0 D, flT (.sp r 2)⟩ 0 := by
 obtain rfl : cl = false := (hph.pre trivial).1
 obtain ⟨-, g', child, hsp, hcr, hchild, hnext⟩ := hgoS
 obtain ⟨hno, hgot, hN⟩ := hph.idle _ _ rfl
 have hsize := hcom.size
 have hrun := runT_crowd_spawn (P := P) (sl := sl) (i := 0) ha (by simpa using hsp)
 rw [ofEvents_nil, hsize] at hrun
 have hops : (((#[] : Array MemOp).push { g := 0, fn := a.frame.fn, pos := a.frame.place, act := .go (j + 1) }).push { g := j + 1, fn := child.frame.fn, pos := a.frame.place, act := .start }) = #[{ g := 0, fn := a.frame.fn, pos := a.frame.place, act := .go (j + 1) }, { g := j + 1, fn := child.frame.fn, pos := a.frame.place, act := .start }] := rfl
 rw [hops] at hrun
 generalize hx : ({ g := 0, fn := a.frame.fn, pos := a.frame.place, act := .go (j + 1) } : MemOp) = x at hrun
 generalize hy : ({ g := j + 1, fn := child.frame.fn, pos := a.frame.place, act := .start } : MemOp) = y at hrun
 have hx' : x.g = 0 ∧ x.act = .go (j + 1) := by rw [← hx]; exact ⟨rfl, rfl⟩
 have hy' : y.g = j + 1 ∧ y.act = .start := by rw [← hy]; exact ⟨rfl, rfl⟩
 have hm : ∀ op ∈ #[x, y], op = x ∨ op = y := by intro op hop; simpa using hop
 have hu : Mutes (j + 1) #[x, y] := by
   intro op hop
   rcases hm op hop with rfl | rfl
   · rw [hx'.1, hx'.2]; exact ⟨rfl, by omega, by simp⟩
   · rw [hy'.1, hy'.2]; exact ⟨rfl, by omega, by simp⟩
 let S' : Nat → Prop := F.pub (Rd 0) (Own 0)
 let Own' : Nat → Nat → Prop := fun k b => if k = 0 then Own 0 b ∧ F.priv b else if k = j + 1 then False else Own k b
 let Rd' : Nat → Nat → Prop := fun k b => if k = 0 ∨ k = j + 1 then S' b else Rd k b
 have eo : ∀ k, k ≠ 0 → k ≠ j + 1 → Own' k = Own k := fun k h1 h2 => by simp [Own', h1, h2]
 have er : ∀ k, k ≠ 0 → k ≠ j + 1 → Rd' k = Rd k := fun k h1 h2 => by simp [Rd', h1, h2]
 have eo0 : Own' 0 = fun b => Own 0 b ∧ F.priv b := by simp [Own']
 have er0 : Rd' 0 = S' := by simp [Rd']
 have eoj : Own' (j + 1) = fun _ => False := by simp [Own']
 have erj : Rd' (j + 1) = S' := by simp [Rd']
 have hlay : Lay Sp Own' Rd' (j + 1) w.heap.size := by
   have hl := hcom.lay
   have oo : ∀ k, k ≤ j + 1 → ∀ b, Own' k b → k ≤ j ∧ Own k b ∧ (k = 0 → F.priv b) := fun k hk b hb => by
     by_cases e : k = 0
     · simp only [Own', if_pos e] at hb
       exact ⟨by omega, e ▸ hb.1, fun _ => hb.2⟩
     · by_cases e2 : k = j + 1
       · simp only [Own', if_neg e, if_pos e2] at hb
       · simp only [Own', if_neg e, if_neg e2] at hb
         exact ⟨by omega, hb, fun q => absurd q e⟩
   have rr : ∀ k, k ≤ j + 1 → ∀ b, Rd' k b → Rd 0 b ∨ (Own 0 b ∧ ¬ F.priv b) ∨ (k ≤ j ∧ Rd k b) := fun k hk b hb => by
     by_cases e : k = 0 ∨ k = j + 1
     · simp only [Rd', if_pos e] at hb
       exact hb.imp id .inl
     · simp only [Rd', if_neg e] at hb
       exact .inr (.inr ⟨by omega, hb⟩)
   refine ⟨hl.spB, fun k hk b hb => ?_, fun k hk b hb => ?_, fun k k' hk hk' hne b hb hb' => ?_, fun k hk b hb => ?_, fun k k' hk hk' b hb hb' => ?_, fun k hk b hb => ?_⟩
   · obtain ⟨q, z, -⟩ := oo k hk b hb; exact hl.ownB k q b z
   · rcases rr k hk b hb with q | q | ⟨q, z⟩
     · exact hl.rdB 0 (by omega) b q
     · exact hl.ownB 0 (by omega) b q.1
     · exact hl.rdB k q b z
   · obtain ⟨q, z, -⟩ := oo k hk b hb
     obtain ⟨q', z', -⟩ := oo k' hk' b hb'
     exact hl.own2 k k' q q' hne b z z'
   · obtain ⟨q, z, -⟩ := oo k hk b hb; exact hl.ownSp k q b z
   · obtain ⟨q, z, hp⟩ := oo k hk b hb
     rcases rr k' hk' b hb' with q' | q' | ⟨q', z'⟩
     · exact hl.ownRd k 0 q (by omega) b z q'
     · by_cases h0 : k = 0
       · exact q'.2 (hp h0)
       · exact hl.own2 k 0 q (by omega) h0 b z q'.1
     · exact hl.ownRd k k' q q' b z z'
   · rcases rr k hk b hb with q | q | ⟨q, z⟩
     · exact hl.rdSp 0 (by omega) b q
     · exact hl.ownSp 0 (by omega) b q.1
     · exact hl.rdSp k q b z
 have htr : Tr Sp Own' Rd' (j + 1) w.heap.size (t ++ #[x, y]) :=
   (hcom.tr.congr (fun k k1 kj b => by rw [eo k (by omega) (by omega)]) (fun k k1 kj b => by rw [er k (by omega) (by omega)])).fork hlay hx' hy' hcom.deaf0
 have hgs0 : ((gs.setIfInBounds 0 g').push child)[0]? = some g' := by
   rw [Array.getElem?_push_lt (by simp [hsize]), ← Array.getElem?_eq_getElem, Array.getElem?_setIfInBounds_self_of_lt (by omega)]
 have hcom' : F.Com (j + 1) ((gs.setIfInBounds 0 g').push child) w (t ++ #[x, y]) (upd D j ⟨9, none, 0, .on ⟨false, F.I, S', F.Head S', child, w, fun _ => False⟩⟩) Own' Rd' Sp 0 := by
   refine ⟨by simp [hsize], hcom.inv, hlay, hcom.spc, htr, fun i hi => ?_, fun k hk b hb => ?_, by rw [Deaf_mutes hu, hcom.deaf0], fun i hi => ?_, fun i hi hst => ?_⟩
   · rcases Nat.lt_or_ge i j with hlt | hge
     · obtain ⟨g, hg, hs⟩ := hcom.wk i hlt
       refine ⟨g, ?_, by rw [upd_ne _ _ (by omega), eo _ (by omega) (by omega), er _ (by omega) (by omega)]; exact hs⟩
       rw [Array.getElem?_push_lt (by simp [hsize]; omega), ← Array.getElem?_eq_getElem, Array.getElem?_setIfInBounds_ne (by omega)]
       exact hg
     · obtain rfl : i = j := by omega
       refine ⟨child, ?_, by rw [upd_same, eoj, erj]; exact .head (Way.new hchild)⟩
       rw [show i + 1 = (gs.setIfInBounds 0 g').size by simp [hsize], Array.getElem?_push_size]
   · rw [er0]
     by_cases e : k = 0 ∨ k = j + 1
     · simp only [Rd', if_pos e] at hb; exact hb
     · simp only [Rd', if_neg e] at hb
       exact .inl (hcom.rdsub k (by omega) b hb)
   · rw [Deaf_mutes hu]
     rcases Nat.lt_or_ge i j with hlt | hge
     · rw [hcom.deafW i hlt, upd_ne _ _ (by omega)]
     · obtain rfl : i = j := by omega
       rw [upd_same]
       exact Deaf_absent fun q op hq e => by have := hcom.tr.ct.gs q op hq; omega
   · rcases Nat.lt_or_ge i j with hlt | hge
     · rw [upd_ne _ _ (by omega)] at hst
       have hno : ∀ op ∈ #[x, y], op.g ≠ i + 1 := by
         intro op hop
         rcases hm op hop with rfl | rfl
         · rw [hx'.1]; omega
         · rw [hy'.1]; omega
       exact (hcom.rel i hlt hst).imp (fun ⟨r, hr⟩ => ⟨r, hr.appNot hno⟩) fun q => q.not hno
     · obtain rfl : i = j := by omega
       rw [upd_same] at hst
       simp at hst
 generalize hdd : (⟨9, none, 0, .on ⟨false, F.I, S', F.Head S', child, w, fun _ => False⟩⟩ : WD' P) = dd at hcom'
 have d9 : dd.st = 9 := by rw [← hdd]
 have dt : dd.tk = none := by rw [← hdd]
 have hVs : Vs (j + 1) (stg (upd D j dd)) = Vs j (stg D) + 1 := by
   have e1 : Vs (j + 1) (stg (upd D j dd)) = Vs j (stg (upd D j dd)) + cntS (stg (upd D j dd) j) := rfl
   have e2 : Vs j (stg (upd D j dd)) = Vs j (stg D) := Vs_congr fun q hq => by simp only [stg]; rw [upd_ne _ _ (by omega)]
   rw [e1, e2]
   simp only [stg, upd_same, d9]
   rfl
 have hsum : sumTo (j + 1) (stg (upd D j dd)) = sumTo j (stg D) + 9 := by
   have e1 : sumTo (j + 1) (stg (upd D j dd)) = sumTo j (stg (upd D j dd)) + stg (upd D j dd) j := rfl
   have e2 : sumTo j (stg (upd D j dd)) = sumTo j (stg D) := sumTo_congr fun q hq => by simp only [stg]; rw [upd_ne _ _ (by omega)]
   rw [e1, e2]
   simp only [stg, upd_same, d9]
 obtain ⟨hop, e1, e2⟩ := hmode.at_open trivial
 have hmode' : ∀ tag, openT tag → pendT tag = 0 → (∀ vs, tag ≠ .w2 vs) → Mode' (j + 1) (stg (upd D j dd)) tag st sm := fun tag h1 h2 h3 => by
   rw [e1, e2]
   have : ((Vs j (stg D) + pendT (.sp r 2) : Nat) : Int) * KK = ((Vs (j + 1) (stg (upd D j dd)) + pendT tag : Nat) : Int) * KK := by rw [hVs, h2]; rfl
   rw [this]
   refine .opn h1 (fun i hi => ?_) (fun vs e => absurd e (h3 vs))
   by_cases e : i = j
   · subst e; simp only [stg, upd_same, d9]; exact .inl (by omega)
   · have := hop i (by omega)
     simp only [stg] at this ⊢
     rw [upd_ne _ _ e]; exact this
 have hpre : ∀ i, i < j + 1 → 8 ≤ (upd D j dd i).st ∨ (upd D j dd i).st = 1 := fun i hi => by
   by_cases e : i = j
   · subst e; rw [upd_same, d9]; exact .inl (by omega)
   · rw [upd_ne _ _ e]; exact (hph.pre trivial).2 i (by omega)
 have htk : ∀ i, i < j + 1 → (upd D j dd i).tk = none := fun i hi => by
   by_cases e : i = j
   · subst e; rw [upd_same, dt]
   · rw [upd_ne _ _ e]; exact hno i (by omega)
 cases r with
 | zero =>
   refine ⟨_, _, ⟨_, _, _, _⟩, hrun, ?_, _, w, sl, j + 1, upd D j dd, Own', Rd', Sp, fun _ => False, .sel 0 0, 0, .on ⟨true, F.I, S', F.Turn S' 0 0 fun _ => False, g', w, fun b => Own 0 b ∧ F.priv b⟩, g', st, sm, false, s, rfl, hgs0, by rw [er0, eo0]; exact .sel (Way.new hnext), hcom', hwg, htd, hmode' _ trivial rfl (by simp),
     ⟨fun _ => ⟨rfl, hpre⟩, fun q => absurd trivial q, by simp, fun _ => by omega, fun nx rd e => ?_, by simp⟩, by simp, rfl⟩
   · left
     simp only [wt, hsum]
     omega
   · simp at e
     obtain ⟨rfl, rfl⟩ := e
     exact ⟨by omega, by omega, by rw [tks_none htk], fun k hk => by omega, j, by omega, by rw [upd_same, d9]; omega⟩
 | succ r =>
   refine ⟨_, _, ⟨_, _, _, _⟩, hrun, ?_, _, w, sl, j + 1, upd D j dd, Own', Rd', Sp, fun _ => False, .sp r 6, 0, .on ⟨true, F.I, S', F.KdS (F.Starts r) S', g', w, fun b => Own 0 b ∧ F.priv b⟩, g', st, sm, false, s, rfl, hgs0, by rw [er0, eo0]; exact .skd (Way.new hnext), hcom', hwg, htd, hmode' _ trivial rfl (by simp),
     ⟨fun _ => ⟨rfl, hpre⟩, fun q => absurd trivial q, fun r' s' e => ?_, by simp, by simp, by simp⟩, by simp, rfl⟩
   · left
     simp only [wt, hsum]
     omega
   · simp at e
     obtain ⟨rfl, rfl⟩ := e
     exact ⟨htk, fun _ => id, by omega⟩
end
end Go.Proofs.YtajnfkmkombajabDoor
