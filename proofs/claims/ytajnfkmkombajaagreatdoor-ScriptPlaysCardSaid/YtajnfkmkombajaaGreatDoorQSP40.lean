/-
  From a row's cell on listed variables, and the world's shape, to what the scripts' walks ask.
-/
import Derived.Test.YtajnfkmkombajaaGreatDoorQSP02
import Derived.Test.YtajnfkmkombajaaGreatDoorQSP20
import Derived.Lib.LaidTab
import Derived.Shelf.Vars
import Derived.Handed
set_option linter.unusedVariables false
set_option linter.unusedSimpArgs false
set_option linter.unusedVariables false
namespace Go.Proofs.YtajnfkmkombajaaGreatDoor
open Go Go.RowKit Go.ChangeShapes
theorem handed_and_shaped {H : Type} {enc : TypeId × Value → H} {a : Assume} {C : Checked} {os : Os} {f : FuncId} {fn : Func} {s : ChangeSpec} {conds : List PathCond} {apart fresh handsOn again : Bool} {X : World → Array Value → Prop}
   (hX : ∀ (w w' : World) (args : Array Value), w.heap = w'.heap → X w args → X w' args)
   (own : ownKnob C.prog.godebug = none) (started : os.Started) (noInit : C.prog.inits.idxOf? f = none) (hfn : C.prog.funcs[f]? = some fn)
   (witness : ∃ (w : World) (tape : Tape) (i : Input), w.os = os ∧ (w.forCall tape i).Shaped C.prog ∧ i.vars = [] ∧ Input.okWide C.prog (w.forCall tape i) .any w.heap.size f i ∧
     ((s.pre enc C.prog fn conds apart (w.forCall tape i).memory i.args ∧ X (w.forCall tape i).memory i.args) ∧ sizedMet enc C.prog fn (OpenSpec.ofChange s) apart (w.forCall tape i).memory i.args) ∧ a.holds C.prog (lone (Frame.enter C.prog f i.args .normal) [] (w.forCall tape i)))
   (contract : ∀ (W : World) (base : Nat) (args : Array Value) (ds gs : List (DataW H)) (before : List MemPlace),
     (∀ (j : Nat) t v, fn.params[j]? = some t → args[j]? = some v → Value.okWide C.prog W .any base t v) →
     DataW.Whole enc C.prog fn.params.toList s.vars apart W args.toList ds gs before →
     conds.all (PathCond.test C.prog ⟨fn.params.toList, ds, s.plain.varTypes C.prog, gs⟩) = true →
     (DataW.weightsEach C.prog (fn.params.toList ++ s.plain.varTypes C.prog) (ds ++ gs)).all (· ≤ reachBytes) = true → X W args → W.ShapedOpen C.prog →
     a.holds C.prog (lone (Frame.enter C.prog f args .normal) [] W) →
     Calls C.prog f args W fun e W' => ∃ v, e = .returned v ∧ s.post enc C.prog fn apart fresh handsOn again W args v W') :
   ReturnsInHanded a C os f .any (fun w args => (s.pre enc C.prog fn conds apart w args ∧ X w args) ∧ sizedMet enc C.prog fn (OpenSpec.ofChange s) apart w args) (s.post enc C.prog fn apart fresh handsOn again) := by
 refine returnsInHanded_of_calls own started noInit witness ?_
 intro w tape i _ hsh _ hok hpre hholds
 obtain ⟨_, _, _, fn', hfn', _, _, _, _, hval⟩ := hok
 have e : fn' = fn := Option.some.inj (hfn'.symm.trans hfn)
 subst e
 obtain ⟨⟨⟨ds, gs, before, hw, hc⟩, hx⟩, hz⟩ := hpre
 have hw' := DataW.Whole.of_heap (w' := w.forCall tape i) (by rfl) hw
 refine (contract (w.forCall tape i) w.heap.size i.args ds gs before hval hw' hc (hz.weights hw) (hX _ _ _ (by rfl) hx) hsh hholds).mono fun e W' ⟨v, he, hp⟩ => ?_
 subst he
 exact ChangeSpec.post_blind hp
def sentD (text : List UInt8) : DataW Unit := .iface "*errors.errorString" (.ptr (.agg [.lit (.string text)]))
def apiName : Nat → String
 | 1 => "bakehouse/api.ErrText"
 | 2 => "bakehouse/api.ErrBound"
 | 3 => "bakehouse/api.ErrShape"
 | 4 => "bakehouse/api.ErrNone"
 | 5 => "bakehouse/api.ErrExist"
 | 6 => "bakehouse/api.ErrShort"
 | 7 => "bakehouse/api.ErrSmall"
 | 8 => "bakehouse/api.ErrGone"
 | 9 => "bakehouse/api.ErrTurn"
 | _ => "bakehouse/api.ErrOld"
def sentRow (c : Nat) : String × DataW Unit := (apiName c, sentD (errHead ++ errTail c))
def laidE : List (String × DataW Unit) := ("errors.errorType", DataW.iface "internal/reflectlite.rtype" (.agg [.ptr (.lit (.string errorName))])) :: [1, 2, 3, 4, 5, 6, 7, 8, 9, 10].map sentRow
def laidKeep : List String := "errors.errorType" :: [1, 2, 3, 4, 5, 6, 7, 8, 9, 10].map apiName
theorem laidE_as : LaidAs [1, 2, 3, 4, 5, 6, 7, 8, 9, 10] (laidE.filter fun x => x.2.handleName?.isNone) := by
 rw [show (laidE.filter fun x => x.2.handleName?.isNone) = [1, 2, 3, 4, 5, 6, 7, 8, 9, 10].map sentRow from by kernel_rfl]
 refine ⟨⟨by decide, by decide, by kernel_rfl, by kernel_rfl, _, rfl⟩, ⟨⟨by decide, by decide, by kernel_rfl, by kernel_rfl, _, rfl⟩, ⟨⟨by decide, by decide, by kernel_rfl, by kernel_rfl, _, rfl⟩, ⟨⟨by decide, by decide, by kernel_rfl, by kernel_rfl, _, rfl⟩, ⟨⟨by decide, by decide, by kernel_rfl, by kernel_rfl, _, rfl⟩, ⟨⟨by decide, by decide, by kernel_rfl, by kernel_rfl, _, rfl⟩, ⟨⟨by decide, by decide, by kernel_rfl, by kernel_rfl, _, rfl⟩, ⟨⟨by decide, by decide, by kernel_rfl, by kernel_rfl, _, rfl⟩, ⟨⟨by decide, by decide, by kernel_rfl, by kernel_rfl, _, rfl⟩, ⟨⟨by decide, by decide, by kernel_rfl, by kernel_rfl, _, rfl⟩, trivial⟩⟩⟩⟩⟩⟩⟩⟩⟩⟩
theorem sent_of_laid {W : World} {L : List (String × DataW Unit)} (hL : laidMetH Tryz.prog L W) {n : String} {text : List UInt8} {g : Nat} (hf : (L.filter fun x => x.1 == n) = [(n, sentD text)])
   (hg : Tryz.prog.globalNamed n = some g) (ht : (Tryz.prog.globals[g]?).map (·.type) = some 35) :
   ∃ a, W.cell? ⟨g, 0, none⟩ = some (.iface 288 (.pointer (some a))) ∧ W.cell? a = some (.string (bstr text)) := by
 have h := hL.filter (fun x => x.1 == n)
 rw [hf] at h
 have h1 := (laidMetH_iff.1 h).1
 rw [show ([(n, sentD text)].filter fun x : String × DataW Unit => x.2.handleName?.isNone) = [(n, sentD text)] from rfl] at h1
 obtain ⟨a, s, hv, hc, htx, _⟩ := laid_sentinel h1 hg ht Tryz.underlying35 Tryz.rowErr Tryz.underlying288 Tryz.underlying290 rfl rfl Tryz.underlying9 Tryz.cellsErr Tryz.cellsStr
 refine ⟨a, by simpa using World.var?_cell hg hv 0, ?_⟩
 rw [hc, ← htx]
 simp [bstr]
theorem laidE_at : ∀ c ∈ [1, 2, 3, 4, 5, 6, 7, 8, 9, 10], (laidE.filter fun x => x.1 == apiName c) = [(apiName c, sentD (errHead ++ errTail c))] ∧ Tryz.prog.globalNamed (apiName c) = some (gE c) ∧ (Tryz.prog.globals[gE c]?).map (·.type) = some 35 := by
 intro c hc
 simp only [List.mem_cons, List.mem_nil_iff, or_false] at hc
 rcases hc with rfl | rfl | rfl | rfl | rfl | rfl | rfl | rfl | rfl | rfl
 all_goals exact ⟨by kernel_rfl, by kernel_rfl, by kernel_rfl⟩
theorem lw_of_laid {W : World} {L : List (String × DataW Unit)} (hL : laidMetH Tryz.prog L W) (hsh : W.ShapedOpen Tryz.prog) (e1 : (L.filter fun x => laidKeep.contains x.1) = laidE)
   (e2 : (L.filter fun x => x.1 == "internal/strconv.uint64pow10") = [("internal/strconv.uint64pow10", Lib.tabData .u64 Lib.pow10Tab)]) {t3 t4 : List UInt8}
   (e3 : (L.filter fun x => x.1 == "strconv.ErrSyntax") = [("strconv.ErrSyntax", sentD t3)]) (e4 : (L.filter fun x => x.1 == "strconv.ErrRange") = [("strconv.ErrRange", sentD t4)]) : ∃ A, Lw A W := by
 have hE := hL.filter (fun x => laidKeep.contains x.1)
 rw [e1] at hE
 obtain ⟨A, hS⟩ := sents_of_laid hE laidE_as (List.Mem.head _) (by kernel_rfl)
 refine ⟨A, hS, fun c h1 h2 => ?_, ?_, ?_, ?_, ?_⟩
 · have hc : c ∈ [1, 2, 3, 4, 5, 6, 7, 8, 9, 10] := by simp; omega
   obtain ⟨f1, f2, f3⟩ := laidE_at c hc
   obtain ⟨a, a1, a2⟩ := sent_of_laid hE f1 f2 f3
   have := hS.errs.cell c hc
   rw [a1, ev_some A (by omega)] at this
   cases this
   exact a2
 · obtain ⟨a, a1, _⟩ := sent_of_laid hL e3 (g := 15) (by kernel_rfl) (by kernel_rfl)
   exact ⟨_, _, a1⟩
 · obtain ⟨a, a1, _⟩ := sent_of_laid hL e4 (g := 16) (by kernel_rfl) (by kernel_rfl)
   exact ⟨_, _, a1⟩
 · have h := hL.filter (fun x => x.1 == "internal/strconv.uint64pow10")
   rw [e2] at h
   have h1 := (laidMetH_iff.1 h).1
   rw [show ([("internal/strconv.uint64pow10", Lib.tabData .u64 Lib.pow10Tab)].filter fun x : String × DataW Unit => x.2.handleName?.isNone) = [("internal/strconv.uint64pow10", Lib.tabData .u64 Lib.pow10Tab)] from by kernel_rfl] at h1
   exact Lib.tabIs_of_head pow10_named (t := 273) (by kernel_rfl) Tryz.underlying273 Tryz.underlying22 (by kernel_rfl) (by kernel_rfl) h1
 · exact Go.Proofs.cell_of_shapedOpen_int (zero := #[.int .i64 0]) (t := 3) hsh (of_decide_eq_true (by kernel_rfl)) (by kernel_rfl) rfl (by kernel_rfl) (by kernel_rfl) Tryz.underlying3
end Go.Proofs.YtajnfkmkombajaaGreatDoor
