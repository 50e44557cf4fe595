/-
  Workers who take tasks from one channel and give back what they made by another; the caller who starts them, gives, takes, closes and waits: what is asked of each, stop by stop.
  Where each of the company stands.
  What holds of the company at every moment, and how a step of one of them leaves it.
-/
import Derived.Test.YtajnfkmkombajabDoorQSD09
set_option linter.unusedVariables false
set_option linter.unusedSimpArgs false
namespace Go.Proofs.YtajnfkmkombajabDoor
open Go Go.Conc Go.ConcN
open Go.ConcR (KK wgBlock WgAt stA smA)
instance : Go.ConcR.Payload := ⟨0⟩
structure Farm (P : Program) where
 ty : TypeId
 Wg : Nat
 Td : Nat
 Bk : Nat
 z : Value
 zb : Value
 zs : Value
 zc : Value
 many : Nat
 selC : Nat → Array CommCase
 /-- what the caller keeps to itself when it starts workers -/
 priv : Nat → Prop
 Head : (Nat → Prop) → Goroutine → World → (Nat → Prop) → Prop
 Back : (Nat → Prop) → Nat → Value → Goroutine → World → (Nat → Prop) → Prop
 Deliv : (Nat → Prop) → Nat → Value → World → (Nat → Prop) → Prop
 Sel : (Nat → Prop) → Nat → Nat → (Nat → Prop) → Goroutine → World → (Nat → Prop) → Prop
 Anch : (Nat → Prop) → Goroutine → World → (Nat → Prop) → Prop
 Ret : (Nat → Prop) → Goroutine → World → (Nat → Prop) → Prop
section
variable {P : Program} (F : Farm P)
def Farm.I (W : World) : Prop := (∃ st sm, WgAt F.ty F.Wg W st sm) ∧ (∃ cl s, W.heap[F.Td]? = some (.chan 0 #[] cl s s false)) ∧ ∃ s, W.heap[F.Bk]? = some (.chan 0 #[] false s s false)
abbrev Farm.Go (mn : Bool) (S : Nat → Prop) (Stop : Goroutine → World → (Nat → Prop) → Prop) (g : Goroutine) (W : World) (M : Nat → Prop) : Prop := GoesW P mn F.I S Stop g W M
/-! a worker's end -/
section
variable (S : Nat → Prop)
def Farm.R0 (g : Goroutine) (W : World) (_ : Nat → Prop) : Prop := ∃ C n val, S C ∧ AtR0 P F.ty F.Wg C n 0 1 val g W
end
/-! the caller, from its end backwards -/
section
variable (S : Nat → Prop)
def Farm.Acq (g : Goroutine) (W : World) (M : Nat → Prop) : Prop :=
 g.status = .running ∧ ∃ g', stepG P true g W = .go g' W #[Go.ConcR.mk (.acquire (stA F.Wg))] ∧ F.Go true S (F.Ret S) g' W M
def Farm.Ke (g : Goroutine) (W : World) (M : Nat → Prop) : Prop :=
 g.status = .running ∧ ∃ g', stepG P true g W = .go g' W #[Go.ConcR.mk .enable] ∧ F.Go true S (F.Acq S) g' W M
def Farm.W4 (g : Goroutine) (W : World) (M : Nat → Prop) : Prop :=
 g.status = .running ∧ (WgAt F.ty F.Wg W 0 0 → ∃ g', stepG P true g W = .go g' W #[Go.ConcR.rd (stA F.Wg)] ∧ F.Go true S (F.Ke S) g' W M)
def Farm.W3 (g : Goroutine) (W : World) (M : Nat → Prop) : Prop :=
 g.status = .running ∧ g.offers = none ∧
   ((∃ st, WgAt F.ty F.Wg W st 0) → stepG P true g W = .go { g with status := .blocked } W #[]) ∧
   (WgAt F.ty F.Wg W 0 1 → ∃ g', stepG P true g W = .go g' (W.setCell (smA F.Wg) (.int .u32 0)) (semEvents (smA F.Wg)) ∧ F.Go true S (F.W4 S) g' (W.setCell (smA F.Wg) (.int .u32 0)) M)
def Farm.Ws (g : Goroutine) (W : World) (M : Nat → Prop) : Prop :=
 g.status = .running ∧ ∃ g', stepG P true g W = .go g' W #[Go.ConcR.mk (.write (smA F.Wg))] ∧ F.Go true S (F.W3 S) g' W M
def Farm.W2 (vs : Nat) (g : Goroutine) (W : World) (M : Nat → Prop) : Prop :=
 g.status = .running ∧ ∀ v : Nat, v < 2147483648 → WgAt F.ty F.Wg W (v * KK) 0 →
   (v = vs → ∃ g', stepG P true g W = .go g' (W.setCell (stA F.Wg) (.int .u64 (v * KK + 1))) #[Go.ConcR.rd (stA F.Wg), Go.ConcR.wr (stA F.Wg)] ∧ F.Go true S (F.Ws S) g' (W.setCell (stA F.Wg) (.int .u64 (v * KK + 1))) M) ∧
   (v ≠ vs → ∃ g', stepG P true g W = .go g' W #[Go.ConcR.rd (stA F.Wg)] ∧ F.Go true S (F.Anch S) g' W M)
def Farm.W1 (g : Goroutine) (W : World) (M : Nat → Prop) : Prop :=
 g.status = .running ∧ ∀ v : Nat, v < 2147483648 → WgAt F.ty F.Wg W (v * KK) 0 → ∃ g', stepG P true g W = .go g' W #[Go.ConcR.rd (stA F.Wg)] ∧
   (v = 0 → F.Go true S (F.Ke S) g' W M) ∧ (v ≠ 0 → F.Go true S (F.W2 S v) g' W M)
def Farm.Kd (g : Goroutine) (W : World) (M : Nat → Prop) : Prop :=
 g.status = .running ∧ ∃ g', stepG P true g W = .go g' W #[Go.ConcR.mk .disable] ∧ F.Go true S (F.Anch S) g' W M
def Farm.Cl (g : Goroutine) (W : World) (M : Nat → Prop) : Prop :=
 g.status = .running ∧ mayWake P g = true ∧ ∀ s, W.heap[F.Td]? = some (.chan 0 #[] false s s false) →
   ∃ g', stepG P true g W = .go g' (W.setChan F.Td 0 #[] true s s false) #[⟨.obj F.Td, false, true⟩, ⟨.obj F.Td, true, true⟩] ∧ F.Go true S (F.Kd S) g' (W.setChan F.Td 0 #[] true s s false) M
def Farm.Turn (nx rd : Nat) (got : Nat → Prop) (g : Goroutine) (W : World) (M : Nat → Prop) : Prop :=
 (rd < F.many ∧ F.Sel S nx rd got g W M) ∨ (rd = F.many ∧ F.Cl S g W M)
end
/-! the caller starts them -/
def Farm.pub (S M : Nat → Prop) : Nat → Prop := fun b => S b ∨ (M b ∧ ¬ F.priv b)
def Farm.GoS (Next : (Nat → Prop) → Goroutine → World → (Nat → Prop) → Prop) (S : Nat → Prop) (g : Goroutine) (W : World) (M : Nat → Prop) : Prop :=
 g.status = .running ∧ ∃ g' child, stepG P true g W = .spawn g' child W #[] ∧ child.status = .running ∧ F.Go false (F.pub S M) (F.Head (F.pub S M)) child W (fun _ => False) ∧ Next (F.pub S M) g' W (fun b => M b ∧ F.priv b)
def Farm.KeS (Next : (Nat → Prop) → Goroutine → World → (Nat → Prop) → Prop) (S : Nat → Prop) (g : Goroutine) (W : World) (M : Nat → Prop) : Prop :=
 g.status = .running ∧ ∃ g', stepG P true g W = .go g' W #[Go.ConcR.mk .enable] ∧ F.Go true S (F.GoS Next S) g' W M
def Farm.Sd (Next : (Nat → Prop) → Goroutine → World → (Nat → Prop) → Prop) (S : Nat → Prop) (g : Goroutine) (W : World) (M : Nat → Prop) : Prop :=
 (g.status = .running ∧ ∃ g', stepG P true g W = .go g' W #[Go.ConcR.mk (.read (smA F.Wg))] ∧ F.Go true S (F.KeS Next S) g' W M) ∨ F.KeS Next S g W M
def Farm.A1 (Next : (Nat → Prop) → Goroutine → World → (Nat → Prop) → Prop) (S : Nat → Prop) (g : Goroutine) (W : World) (M : Nat → Prop) : Prop :=
 g.status = .running ∧ ∀ v : Nat, v < 2147483647 → WgAt F.ty F.Wg W (v * KK) 0 →
   ∃ g', stepG P true g W = .go g' (W.setCell (stA F.Wg) (.int .u64 ((v + 1) * KK))) #[Go.ConcR.rd (stA F.Wg), Go.ConcR.wr (stA F.Wg)] ∧ F.Go true S (F.Sd Next S) g' (W.setCell (stA F.Wg) (.int .u64 ((v + 1) * KK))) M
def Farm.KdS (Next : (Nat → Prop) → Goroutine → World → (Nat → Prop) → Prop) (S : Nat → Prop) (g : Goroutine) (W : World) (M : Nat → Prop) : Prop :=
 g.status = .running ∧ ∃ g', stepG P true g W = .go g' W #[Go.ConcR.mk .disable] ∧ F.Go true S (F.A1 Next S) g' W M
def Farm.Starts : Nat → (Nat → Prop) → Goroutine → World → (Nat → Prop) → Prop
 | 0, S, g, W, M => F.Go true S (F.Turn S 0 0 fun _ => False) g W M
 | r + 1, S, g, W, M => F.Go true S (F.KdS (Farm.Starts r) S) g W M
structure Farm.Law : Prop where
 blocks : F.Wg ≠ F.Td ∧ F.Wg ≠ F.Bk ∧ F.Td ≠ F.Bk
 head_run : ∀ S g W M, F.Head S g W M → g.status = .running
 head_rely : ∀ S g W W1 M, F.Head S g W M → RelyS S M W W1 → F.I W1 → F.Head S g W1 M
 head_comm : ∀ S g W M, F.Head S g W M → F.I W → stepG P false g W = .comm g #[rcase F.Td F.z] true (.recv true) W #[]
 head_take : ∀ S g W M i, F.Head S g W M → F.I W → i < F.many → F.Go false S (fun g W M => ∃ v, F.Back S i v g W M) (Go.Conc.served g (recvd true (.int .i64 i) true)) W M
 head_end : ∀ S g W M, F.Head S g W M → F.I W → F.Go false S (F.R0 S) (Go.Conc.served g (recvd true F.z false)) W M
 back_run : ∀ S i v g W M, F.Back S i v g W M → g.status = .running
 back_rely : ∀ S i v g W W1 M, F.Back S i v g W M → RelyS S M W W1 → F.I W1 → F.Back S i v g W1 M
 back_comm : ∀ S i v g W M, F.Back S i v g W M → F.I W → stepG P false g W = .comm g #[scase F.Bk v F.zc] true .send W #[]
 back_done : ∀ S i v g W M, F.Back S i v g W M → F.I W → F.Deliv S i v W M ∧ F.Go false S (F.Head S) (Go.Conc.served g undef) W (fun _ => False)
 sel_cases : ∀ nx, F.selC nx = if nx < F.many then #[scase F.Td (.int .i64 nx) F.zs, rcase F.Bk F.zb] else #[{ chan := .chan none, send := some (.int .i64 nx), zero := F.zs }, rcase F.Bk F.zb]
 sel_run : ∀ S nx rd got g W M, F.Sel S nx rd got g W M → g.status = .running
 sel_rely : ∀ S nx rd got g W W1 M, F.Sel S nx rd got g W M → RelyS S M W W1 → F.I W1 → F.Sel S nx rd got g W1 M
 sel_comm : ∀ S nx rd got g W M, F.Sel S nx rd got g W M → F.I W → stepG P true g W = .comm g (F.selC nx) true .select W #[]
 sel_give : ∀ S nx rd got g W M, F.Sel S nx rd got g W M → F.I W → nx < F.many → rd < F.many → F.Go true S (F.Turn S (nx + 1) rd got) (g.finishComm P (F.selC nx) .select 0 undef false) W M
 sel_get : ∀ S nx rd got g W M i v S' M', F.Sel S nx rd got g W M → F.I W → rd < F.many → i < F.many → F.Deliv S' i v W M' → (∀ b, S' b → S b) → (∀ b, M' b → b < W.heap.size ∧ ¬ M b ∧ ¬ S b) → (rd + 1 = F.many → ∀ k, k < F.many → got k ∨ k = i) →
   F.Go true S (F.Turn S nx (rd + 1) fun k => got k ∨ k = i) (g.finishComm P (F.selC nx) .select 1 v true) W (fun b => M b ∨ M' b)
 anch : ∀ S g W M, F.Anch S g W M → F.I W → F.Go true S (F.W1 S) g W M
 anch_run : ∀ S g W M, F.Anch S g W M → g.status = .running
end
end Go.Proofs.YtajnfkmkombajabDoor
namespace Go.Proofs.YtajnfkmkombajabDoor
open Go Go.Conc Go.ConcN
open Go.ConcR (KK wgBlock WgAt stA smA)
def Way (P : Program) (mn : Bool) (I : World → Prop) (S : Nat → Prop) (Stop : Goroutine → World → (Nat → Prop) → Prop) (M : Nat → Prop) (lv : Lv P) (g : Goroutine) (w : World) : Prop :=
 ∃ W0, (⟨mn, I, S, Stop, g, W0, M⟩ : Nd P).good ∧ lv = .on ⟨mn, I, S, Stop, g, W0, M⟩ ∧ RelyS S M W0 w
section
variable {P : Program} {mn : Bool} {I : World → Prop} {S M : Nat → Prop} {Stop : Goroutine → World → (Nat → Prop) → Prop} {lv : Lv P} {g : Goroutine} {w w' : World}
theorem Way.rely (h : Way P mn I S Stop M lv g w) (hr : RelyS S M w w') : Way P mn I S Stop M lv g w' := let ⟨W0, h1, h2, h3⟩ := h; ⟨W0, h1, h2, h3.trans hr⟩
theorem Way.new (h : GoesW P mn I S Stop g w M) : Way P mn I S Stop M (.on ⟨mn, I, S, Stop, g, w, M⟩) g w := ⟨w, h, rfl, RelyS.refl _ _ _⟩
theorem Way.next' (h : Way P mn I S Stop M lv g w) (hi : I w) : (∀ w₁, RelyS S M w w₁ → I w₁ → Stop g w₁ M) ∨ (g.status = .running ∧ ∃ g' w' es lv', stepG P mn g w = .go g' w' es ∧ Moves M (growM M w w') w w' ∧ (∀ e ∈ es, EvOk S (growM M w w') e) ∧ LvStep lv' lv ∧ Way P mn I S Stop (growM M w w') lv' g' w') := by
 obtain ⟨W0, h1, rfl, h3⟩ := h
 rcases Nd.good.next h1 with hh | ⟨hs, hk⟩
 · exact .inl fun w₁ h₁ => hh w₁ (h3.trans h₁)
 · right
   refine ⟨hs, ?_⟩
   obtain ⟨⟨mn', I', S', Stop', g', W', M'⟩, es, e1, e2, e3, e4, e5, e6, e7, e8, e9, e10⟩ := hk w h3 hi
   simp only at e1 e2 e3 e4 e5 e6 e7 e8 e9 e10
   subst e6; subst e7; subst e8; subst e9; subst e10
   exact ⟨g', W', es, _, e1, e2, e3, .on e5, W', e4, rfl, RelyS.refl _ _ _⟩
theorem Way.next (h : Way P mn I S Stop M lv g w) (hi : I w) : Stop g w M ∨ (g.status = .running ∧ ∃ g' w' es lv', stepG P mn g w = .go g' w' es ∧ Moves M (growM M w w') w w' ∧ (∀ e ∈ es, EvOk S (growM M w w') e) ∧ LvStep lv' lv ∧ Way P mn I S Stop (growM M w w') lv' g' w') :=
 (h.next' hi).imp (fun q => q w (RelyS.refl _ _ _) hi) id
theorem Way.running (h : Way P mn I S Stop M lv g w) (hi : I w) (hr : ∀ g W M, Stop g W M → g.status = .running) : g.status = .running := by
 rcases h.next hi with q | ⟨q, -⟩
 · exact hr _ _ _ q
 · exact q
end
section
variable {P : Program} (F : Farm P)
inductive Farm.WSit (S M : Nat → Prop) : Nat → Option Nat → Nat → Lv P → Goroutine → World → Prop
 | head {lv : Lv P} {g : Goroutine} {w : World} (h : Way P false F.I S (F.Head S) M lv g w) : WSit S M 9 none 0 lv g w
 | hpark {lv : Lv P} {g : Goroutine} {w : World} (h : F.Head S g w M) : WSit S M 8 none 0 lv (parked g #[rcase F.Td F.z] (.recv true)) w
 | hwoke {lv : Lv P} {g : Goroutine} {w : World} (h : F.Head S g w M) : WSit S M 9 none 0 lv { parked g #[rcase F.Td F.z] (.recv true) with status := .running } w
 | task {i : Nat} {lv : Lv P} {g : Goroutine} {w : World} (hi : i < F.many) (h : Way P false F.I S (fun g W M => ∃ v, F.Back S i v g W M) M lv g w) : WSit S M 11 (some i) 0 lv g w
 | bpark {i : Nat} {v : Value} {lv : Lv P} {g : Goroutine} {w : World} (hi : i < F.many) (h : F.Back S i v g w M) : WSit S M 10 (some i) 0 lv (parked g #[scase F.Bk v F.zc] .send) w
 | r0 {lv : Lv P} {g : Goroutine} {w : World} (h : Way P false F.I S (F.R0 S) M lv g w) : WSit S M 7 none 0 lv g w
 | k1 {C n m : Nat} {val : Value} {g : Goroutine} {w : World} (hC : S C) (hh : Has C 0 val w) (h : Goes P false (RW F.ty F.Wg C n 0 0) Go.ConcR.DC0 (AtK1 P F.ty F.Wg C n 0 1) m g w) : WSit S M 6 none 0 (.fuel m) g w
 | d1 {C n m : Nat} {val : Value} {g : Goroutine} {w : World} (hC : S C) (hh : Has C 0 val w) (h : Goes P false (RW F.ty F.Wg C n 0 0) Go.ConcR.DC0 (AtD1 P F.ty F.Wg C n 0 1) m g w) : WSit S M 5 none 1 (.fuel m) g w
 | d2 {C n m : Nat} {val : Value} {g : Goroutine} {w : World} (hC : S C) (hh : Has C 0 val w) (h : Goes P false (RW F.ty F.Wg C n 0 0) Go.ConcR.DC0 (AtD2 P F.ty F.Wg C n 0 1) m g w) : WSit S M 4 none 1 (.fuel m) g w
 | d3 {C n m : Nat} {val : Value} {g : Goroutine} {w : World} (hC : S C) (hh : Has C 0 val w) (h : Goes P false (RW F.ty F.Wg C n 0 0) Go.ConcR.DC0 (AtD3 P F.ty F.Wg C n 0 1) m g w) : WSit S M 3 none 1 (.fuel m) g w
 | d4 {C n m : Nat} {val : Value} {g : Goroutine} {w : World} (hC : S C) (hh : Has C 0 val w) (h : Goes P false (RW F.ty F.Wg C n 0 0) Go.ConcR.DC0 (AtD4 P F.ty F.Wg) m g w) : WSit S M 2 none 1 (.fuel m) g w
 | quit {q d : Nat} {g : Goroutine} {w : World} (h : QuitsD P q d g) : WSit S M 1 none d (.fuel q) g w
inductive CT' where
 | sp (r s : Nat) | sel (nx rd : Nat) | selp (nx rd : Nat) | kd | anch | w1 | w2 (vs : Nat) | ws | w3 | blk | w4 | ke | acq | ret
inductive Farm.CSit (S M : Nat → Prop) (got : Nat → Prop) : CT' → Nat → Lv P → Goroutine → World → Prop
 | skd {r : Nat} {lv : Lv P} {g : Goroutine} {w : World} (h : Way P true F.I S (F.KdS (F.Starts r) S) M lv g w) : CSit S M got (.sp r 6) 0 lv g w
 | sa1 {r : Nat} {lv : Lv P} {g : Goroutine} {w : World} (h : Way P true F.I S (F.A1 (F.Starts r) S) M lv g w) : CSit S M got (.sp r 5) 1 lv g w
 | ssd {r : Nat} {lv : Lv P} {g : Goroutine} {w : World} (h : Way P true F.I S (F.Sd (F.Starts r) S) M lv g w) : CSit S M got (.sp r 4) 1 lv g w
 | ske {r : Nat} {lv : Lv P} {g : Goroutine} {w : World} (h : Way P true F.I S (F.KeS (F.Starts r) S) M lv g w) : CSit S M got (.sp r 3) 1 lv g w
 | sgo {r : Nat} {lv : Lv P} {g : Goroutine} {w : World} (h : Way P true F.I S (F.GoS (F.Starts r) S) M lv g w) : CSit S M got (.sp r 2) 0 lv g w
 | sel {nx rd : Nat} {lv : Lv P} {g : Goroutine} {w : World} (h : Way P true F.I S (F.Turn S nx rd got) M lv g w) : CSit S M got (.sel nx rd) 0 lv g w
 | selp {nx rd : Nat} {lv : Lv P} {g : Goroutine} {w : World} (hr : rd < F.many) (h : F.Sel S nx rd got g w M) : CSit S M got (.selp nx rd) 0 lv (parked g (F.selC nx) .select) w
 | kd {lv : Lv P} {g : Goroutine} {w : World} (h : Way P true F.I S (F.Kd S) M lv g w) : CSit S M got .kd 0 lv g w
 | anch {lv : Lv P} {g : Goroutine} {w : World} (h : Way P true F.I S (F.Anch S) M lv g w) : CSit S M got .anch 1 lv g w
 | w1 {lv : Lv P} {g : Goroutine} {w : World} (h : Way P true F.I S (F.W1 S) M lv g w) : CSit S M got .w1 1 lv g w
 | w2 {vs : Nat} {lv : Lv P} {g : Goroutine} {w : World} (h : Way P true F.I S (F.W2 S vs) M lv g w) : CSit S M got (.w2 vs) 1 lv g w
 | ws {lv : Lv P} {g : Goroutine} {w : World} (h : Way P true F.I S (F.Ws S) M lv g w) : CSit S M got .ws 1 lv g w
 | w3 {lv : Lv P} {g : Goroutine} {w : World} (h : Way P true F.I S (F.W3 S) M lv g w) : CSit S M got .w3 1 lv g w
 | blk {lv : Lv P} {g : Goroutine} {w : World} (h : Way P true F.I S (F.W3 S) M lv g w) (h3 : ∀ w₁, RelyS S M w w₁ → F.I w₁ → F.W3 S g w₁ M) : CSit S M got .blk 1 lv { g with status := .blocked } w
 | w4 {lv : Lv P} {g : Goroutine} {w : World} (h : Way P true F.I S (F.W4 S) M lv g w) : CSit S M got .w4 1 lv g w
 | ke {lv : Lv P} {g : Goroutine} {w : World} (h : Way P true F.I S (F.Ke S) M lv g w) : CSit S M got .ke 1 lv g w
 | acq {lv : Lv P} {g : Goroutine} {w : World} (h : Way P true F.I S (F.Acq S) M lv g w) : CSit S M got .acq 0 lv g w
 | ret {lv : Lv P} {g : Goroutine} {w : World} (h : Way P true F.I S (F.Ret S) M lv g w) : CSit S M got .ret 0 lv g w
end
section
variable {P : Program} {F : Farm P} {S M : Nat → Prop} {st d : Nat} {tk : Option Nat} {lv : Lv P} {g : Goroutine} {w w' : World} {got : Nat → Prop} {tag : CT'}
theorem has_lt {C : Nat} {val : Value} (h : Has C 0 val w) : C < w.heap.size := by
 unfold Has World.cell? at h
 rcases Nat.lt_or_ge C w.heap.size with q | q
 · exact q
 · rw [Array.getElem?_eq_none q] at h; cases h
theorem rw_of {C n : Nat} {val : Value} (hC : S C) (hh : Has C 0 val w) (hr : RelyS S M w w') (hi : F.I w') : RW F.ty F.Wg C n 0 0 w w' ∧ Has C 0 val w' := by
 have e := hr.keep C (has_lt hh) (.inl hC)
 have ec : w'.cell? ⟨C, 0, none⟩ = w.cell? ⟨C, 0, none⟩ := cell_of_block e 0
 exact ⟨⟨fun b hb => absurd hb (Nat.not_lt_zero b), fun _ => hi.1, fun ⟨cs, h1, h2⟩ => ⟨cs, e.trans h1, h2⟩, ec⟩, ec.trans hh⟩
theorem rw_trans {C n : Nat} : ∀ a b c, RW F.ty F.Wg C n 0 0 a b → RW F.ty F.Wg C n 0 0 b c → RW F.ty F.Wg C n 0 0 a c := fun _ _ _ h1 h2 => h1.trans h2
theorem Farm.WSit.rely (L : F.Law) (h : F.WSit S M st tk d lv g w) (hr : RelyS S M w w') (hi : F.I w') : F.WSit S M st tk d lv g w' := by
 cases h with
 | head h => exact .head (h.rely hr)
 | hpark h => exact .hpark (L.head_rely _ _ _ _ _ h hr hi)
 | hwoke h => exact .hwoke (L.head_rely _ _ _ _ _ h hr hi)
 | task h1 h => exact .task h1 (h.rely hr)
 | bpark h1 h => exact .bpark h1 (L.back_rely _ _ _ _ _ _ _ h hr hi)
 | r0 h => exact .r0 (h.rely hr)
 | k1 hC hh h => exact .k1 hC (rw_of (n := 0) hC hh hr hi).2 (Goes.rely rw_trans h (rw_of hC hh hr hi).1)
 | d1 hC hh h => exact .d1 hC (rw_of (n := 0) hC hh hr hi).2 (Goes.rely rw_trans h (rw_of hC hh hr hi).1)
 | d2 hC hh h => exact .d2 hC (rw_of (n := 0) hC hh hr hi).2 (Goes.rely rw_trans h (rw_of hC hh hr hi).1)
 | d3 hC hh h => exact .d3 hC (rw_of (n := 0) hC hh hr hi).2 (Goes.rely rw_trans h (rw_of hC hh hr hi).1)
 | d4 hC hh h => exact .d4 hC (rw_of (n := 0) hC hh hr hi).2 (Goes.rely rw_trans h (rw_of hC hh hr hi).1)
 | quit h => exact .quit h
theorem Farm.WSit.status (L : F.Law) (h : F.WSit S M st tk d lv g w) (hi : F.I w) : (g.status = .running ∧ st ≠ 8 ∧ st ≠ 10) ∨ (g.status = .finished ∧ st = 1) ∨ (g.status = .blocked ∧ (st = 8 ∨ st = 10)) := by
 cases h with
 | head h => exact .inl ⟨h.running hi (L.head_run S), by omega, by omega⟩
 | hpark h => exact .inr (.inr ⟨rfl, .inl rfl⟩)
 | hwoke h => exact .inl ⟨rfl, by omega, by omega⟩
 | task h1 h => exact .inl ⟨h.running hi fun _ _ _ ⟨_, q⟩ => L.back_run _ _ _ _ _ _ q, by omega, by omega⟩
 | bpark h1 h => exact .inr (.inr ⟨rfl, .inr rfl⟩)
 | r0 h => exact .inl ⟨h.running hi fun _ _ _ ⟨_, _, _, _, q⟩ => q.1, by omega, by omega⟩
 | k1 hC hh h => exact .inl ⟨Goes.running (fun _ _ q => q.1) w (RW.refl w) h, by omega, by omega⟩
 | d1 hC hh h => exact .inl ⟨Goes.running (fun _ _ q => q.1) w (RW.refl w) h, by omega, by omega⟩
 | d2 hC hh h => exact .inl ⟨Goes.running (fun _ _ q => q.1) w (RW.refl w) h, by omega, by omega⟩
 | d3 hC hh h => exact .inl ⟨Goes.running (fun _ _ q => q.1) w (RW.refl w) h, by omega, by omega⟩
 | d4 hC hh h => exact .inl ⟨Goes.running (fun _ _ q => q.1) w (RW.refl w) h, by omega, by omega⟩
 | quit h => exact h.status.elim (fun q => .inl ⟨q, by omega, by omega⟩) fun q => .inr (.inl ⟨q, rfl⟩)
theorem Farm.WSit.offers (L : F.Law) (h : F.WSit S M st tk d lv g w) (hi : F.I w) (c : Nat) (send : Bool) (k : Nat) (hk : k ∈ offersAt g c send) :
   k = 0 ∧ ((st = 8 ∧ c = F.Td ∧ send = false ∧ ∃ g0, F.Head S g0 w M ∧ g = parked g0 #[rcase F.Td F.z] (.recv true)) ∨ (st = 10 ∧ c = F.Bk ∧ send = true ∧ ∃ i v g0, tk = some i ∧ i < F.many ∧ F.Back S i v g0 w M ∧ g = parked g0 #[scase F.Bk v F.zc] .send)) := by
 rcases h.status L hi with ⟨q, -⟩ | ⟨q, -⟩ | ⟨-, q⟩
 · rw [offersAt_of_not_blocked (by rw [q]; simp)] at hk; cases hk
 · rw [offersAt_of_not_blocked (by rw [q]; simp)] at hk; cases hk
 · cases h with
   | hpark h =>
     rename_i g0
     cases send with
     | false =>
       rw [offersAt_parked_recv] at hk
       split at hk
       · next e => exact ⟨by simpa using hk, .inl ⟨rfl, e.symm, rfl, g0, h, rfl⟩⟩
       · cases hk
     | true => rw [offersAt_parked_recv'] at hk; cases hk
   | bpark h1 h =>
     rename_i i v g0
     cases send with
     | true =>
       rw [offersAt_parked_send] at hk
       split at hk
       · next e => exact ⟨by simpa using hk, .inr ⟨rfl, e.symm, rfl, i, v, g0, rfl, h1, h, rfl⟩⟩
       · cases hk
     | false => rw [offersAt_parked_send'] at hk; cases hk
   | _ => omega
theorem offersAt_parked (g : Goroutine) (cs : Array CommCase) (sh : CommShape) (c : Nat) (send : Bool) {k : Nat} : k ∈ offersAt (parked g cs sh) c send ↔ ∃ cc, cs[k]? = some cc ∧ cc.send.isSome = send ∧ cc.chan = .chan (some c) := by
 simp only [offersAt, parked, List.mem_map, List.mem_filter, Prod.exists, exists_eq_right]
 constructor
 · rintro ⟨cc, hm, hq⟩
   have := Array.mem_zipIdx_iff_getElem?.1 (Array.mem_toList_iff.1 hm)
   refine ⟨cc, by simpa using this, ?_⟩
   simp only [Bool.and_eq_true, beq_iff_eq] at hq
   refine ⟨hq.1, ?_⟩
   have h2 := hq.2
   split at h2
   · next e => rw [e]; simp at h2; rw [h2]
   · cases h2
 · rintro ⟨cc, hk, h1, h2⟩
   refine ⟨cc, Array.mem_toList_iff.2 (Array.mem_zipIdx_iff_getElem?.2 (by simpa using hk)), ?_⟩
   simp [h1, h2]
theorem Farm.WSit.woken_open (L : F.Law) (h : F.WSit S M st tk d lv g w) (hi : F.I w) (a a' : Goroutine) {w₁ : World} {s s' : Nat} (ht : w₁.heap[F.Td]? = some (.chan 0 #[] false s s false)) (hb : w₁.heap[F.Bk]? = some (.chan 0 #[] false s' s' false)) : woken P a a' w₁ g = g := by
 rcases h.status L hi with ⟨q, -⟩ | ⟨q, -⟩ | ⟨-, q⟩
 · unfold woken; split
   · exact again_running _ (.inl q)
   · rfl
 · unfold woken; split
   · exact again_running _ (.inr q)
   · rfl
 · cases h with
   | hpark h => exact woken_recv_open a a' ht
   | bpark h1 h => exact woken_send_open a a' hb
   | _ => omega
theorem Farm.WSit.woken_shut (L : F.Law) (h : F.WSit S M st tk d lv g w) (hi : F.I w) (hr : RelyS S M w w') (hi' : F.I w') (a a' : Goroutine) {s s' : Nat} (ht : w'.heap[F.Td]? = some (.chan 0 #[] true s s false)) (hb : w'.heap[F.Bk]? = some (.chan 0 #[] false s' s' false)) (hw : mayWake P a = true) (ha : a'.status = .running) :
   ∃ st', F.WSit S M st' tk d lv (woken P a a' w' g) w' ∧ st' ≤ st + 1 ∧ st' ≠ 8 ∧ (st ≠ 8 → st' = st) ∧ (st = 8 → st' = 9) := by
 have h' := h.rely L hr hi'
 by_cases h8 : st = 8
 · subst h8
   cases h' with
   | hpark hh =>
     rename_i g0
     refine ⟨9, ?_, by omega, by omega, by omega, fun _ => rfl⟩
     have : woken P a a' w' (parked g0 #[rcase F.Td F.z] (.recv true)) = { parked g0 #[rcase F.Td F.z] (.recv true) with status := .running } := by
       unfold woken
       rw [if_pos (by simp [hw, ha])]
       exact again_recv_closed ht
     rw [this]
     exact .hwoke hh
 · refine ⟨st, ?_, by omega, h8, fun _ => rfl, fun q => absurd q h8⟩
   have : woken P a a' w' g = g := by
     rcases h.status L hi with ⟨q, -⟩ | ⟨q, -⟩ | ⟨-, q⟩
     · unfold woken; split
       · exact again_running _ (.inl q)
       · rfl
     · unfold woken; split
       · exact again_running _ (.inr q)
       · rfl
     · cases h with
       | bpark h1 h => exact woken_send_open a a' hb
       | _ => omega
   rw [this]
   exact h'
theorem Farm.WSit.woken_past (L : F.Law) (h : F.WSit S M st tk d lv g w) (hi : F.I w) (h8 : st ≠ 8) (a a' : Goroutine) {w₁ : World} {s' : Nat} (hb : w₁.heap[F.Bk]? = some (.chan 0 #[] false s' s' false)) : woken P a a' w₁ g = g := by
 rcases h.status L hi with ⟨q, -⟩ | ⟨q, -⟩ | ⟨-, q⟩
 · unfold woken; split
   · exact again_running _ (.inl q)
   · rfl
 · unfold woken; split
   · exact again_running _ (.inr q)
   · rfl
 · cases h with
   | bpark h1 h => exact woken_send_open a a' hb
   | _ => omega
/-! the caller -/
theorem Farm.CSit.rely (L : F.Law) (h : F.CSit S M got tag d lv g w) (hr : RelyS S M w w') (hi : F.I w') : F.CSit S M got tag d lv g w' := by
 cases h with
 | skd h => exact .skd (h.rely hr)
 | sa1 h => exact .sa1 (h.rely hr)
 | ssd h => exact .ssd (h.rely hr)
 | ske h => exact .ske (h.rely hr)
 | sgo h => exact .sgo (h.rely hr)
 | sel h => exact .sel (h.rely hr)
 | selp h1 h => exact .selp h1 (L.sel_rely _ _ _ _ _ _ _ _ h hr hi)
 | kd h => exact .kd (h.rely hr)
 | anch h => exact .anch (h.rely hr)
 | w1 h => exact .w1 (h.rely hr)
 | w2 h => exact .w2 (h.rely hr)
 | ws h => exact .ws (h.rely hr)
 | w3 h => exact .w3 (h.rely hr)
 | blk h h3 => exact .blk (h.rely hr) fun w₁ h₁ => h3 w₁ (hr.trans h₁)
 | w4 h => exact .w4 (h.rely hr)
 | ke h => exact .ke (h.rely hr)
 | acq h => exact .acq (h.rely hr)
 | ret h => exact .ret (h.rely hr)
theorem Farm.Turn.running (L : F.Law) {nx rd : Nat} {g : Goroutine} {w : World} {M : Nat → Prop} (h : F.Turn S nx rd got g w M) : g.status = .running := h.elim (fun q => L.sel_run _ _ _ _ _ _ _ q.2) fun q => q.2.1
theorem Farm.CSit.status (L : F.Law) (hR : ∀ g w M, F.Ret S g w M → g.status = .running) (h : F.CSit S M got tag d lv g w) (hi : F.I w) : (g.status = .running ∧ tag ≠ .blk ∧ ∀ nx rd, tag ≠ .selp nx rd) ∨ (g.status = .blocked ∧ (tag = .blk ∨ ∃ nx rd, tag = .selp nx rd)) := by
 cases h with
 | skd h => exact .inl ⟨h.running hi fun _ _ _ q => q.1, by simp, by simp⟩
 | sa1 h => exact .inl ⟨h.running hi fun _ _ _ q => q.1, by simp, by simp⟩
 | ssd h => exact .inl ⟨h.running hi fun _ _ _ q => q.elim And.left And.left, by simp, by simp⟩
 | ske h => exact .inl ⟨h.running hi fun _ _ _ q => q.1, by simp, by simp⟩
 | sgo h => exact .inl ⟨h.running hi fun _ _ _ q => q.1, by simp, by simp⟩
 | sel h => exact .inl ⟨h.running hi fun _ _ _ q => q.running L, by simp, by simp⟩
 | selp h1 h => exact .inr ⟨rfl, .inr ⟨_, _, rfl⟩⟩
 | kd h => exact .inl ⟨h.running hi fun _ _ _ q => q.1, by simp, by simp⟩
 | anch h => exact .inl ⟨h.running hi (L.anch_run S), by simp, by simp⟩
 | w1 h => exact .inl ⟨h.running hi fun _ _ _ q => q.1, by simp, by simp⟩
 | w2 h => exact .inl ⟨h.running hi fun _ _ _ q => q.1, by simp, by simp⟩
 | ws h => exact .inl ⟨h.running hi fun _ _ _ q => q.1, by simp, by simp⟩
 | w3 h => exact .inl ⟨h.running hi fun _ _ _ q => q.1, by simp, by simp⟩
 | blk h h3 => exact .inr ⟨rfl, .inl rfl⟩
 | w4 h => exact .inl ⟨h.running hi fun _ _ _ q => q.1, by simp, by simp⟩
 | ke h => exact .inl ⟨h.running hi fun _ _ _ q => q.1, by simp, by simp⟩
 | acq h => exact .inl ⟨h.running hi fun _ _ _ q => q.1, by simp, by simp⟩
 | ret h => exact .inl ⟨h.running hi hR, by simp, by simp⟩
theorem Farm.CSit.offers (L : F.Law) (hR : ∀ g w M, F.Ret S g w M → g.status = .running) (h : F.CSit S M got tag d lv g w) (hi : F.I w) (c : Nat) (send : Bool) (k : Nat) (hk : k ∈ offersAt g c send) :
   ∃ nx rd g0, tag = .selp nx rd ∧ rd < F.many ∧ F.Sel S nx rd got g0 w M ∧ g = parked g0 (F.selC nx) .select ∧ ((k = 0 ∧ c = F.Td ∧ send = true ∧ nx < F.many) ∨ (k = 1 ∧ c = F.Bk ∧ send = false)) := by
 rcases h.status L hR hi with ⟨q, -⟩ | ⟨q, q2⟩
 · rw [offersAt_of_not_blocked (by rw [q]; simp)] at hk; cases hk
 · cases h with
   | selp h1 h =>
     rename_i nx rd g0
     refine ⟨nx, rd, g0, rfl, h1, h, rfl, ?_⟩
     rw [offersAt_parked, L.sel_cases] at hk
     obtain ⟨cc, e1, e2, e3⟩ := hk
     by_cases hn : nx < F.many
     · rw [if_pos hn] at e1
       match k, e1 with
       | 0, e1 => simp at e1; subst e1; simp [scase] at e2 e3; exact .inl ⟨rfl, e3.symm, e2, hn⟩
       | 1, e1 => simp at e1; subst e1; simp [rcase] at e2 e3; exact .inr ⟨rfl, e3.symm, e2⟩
       | k + 2, e1 => simp at e1
     · rw [if_neg hn] at e1
       match k, e1 with
       | 0, e1 => simp at e1; subst e1; simp at e3
       | 1, e1 => simp at e1; subst e1; simp [rcase] at e2 e3; exact .inr ⟨rfl, e3.symm, e2⟩
       | k + 2, e1 => simp at e1
   | blk h h3 =>
     rename_i g0
     have := (h3 w (RelyS.refl _ _ _) hi).2.1
     simp [offersAt, this] at hk
   | _ => simp at q2
theorem Farm.CSit.gives (L : F.Law) {nx rd : Nat} (h : F.CSit S M got (.selp nx rd) d lv g w) : (nx < F.many → 0 ∈ offersAt g F.Td true) ∧ 1 ∈ offersAt g F.Bk false := by
 cases h with
 | selp h1 h =>
   refine ⟨fun hn => ?_, ?_⟩ <;> rw [offersAt_parked, L.sel_cases]
   · rw [if_pos hn]; exact ⟨_, rfl, rfl, rfl⟩
   · by_cases hn : nx < F.many
     · rw [if_pos hn]; exact ⟨_, rfl, rfl, rfl⟩
     · rw [if_neg hn]; exact ⟨_, rfl, rfl, rfl⟩
theorem Farm.WSit.gives8 (h : F.WSit S M 8 tk d lv g w) : 0 ∈ offersAt g F.Td false := by
 cases h with
 | hpark h => rw [offersAt_parked]; exact ⟨_, rfl, rfl, rfl⟩
theorem Farm.WSit.gives10 (h : F.WSit S M 10 tk d lv g w) : 0 ∈ offersAt g F.Bk true := by
 cases h with
 | bpark h1 h => rw [offersAt_parked]; exact ⟨_, rfl, rfl, rfl⟩
theorem Farm.CSit.wokenBy (L : F.Law) (hR : ∀ g w M, F.Ret S g w M → g.status = .running) (h : F.CSit S M got tag d lv g w) (hi : F.I w) (hr : RelyS S M w w') (hi' : F.I w') (ho : ∀ nx rd, tag = .selp nx rd → ∃ s, w'.heap[F.Td]? = some (.chan 0 #[] false s s false)) (a a' : Goroutine) :
   ∃ tag', F.CSit S M got tag' d lv (woken P a a' w' g) w' ∧ (tag' = tag ∨ (tag = .blk ∧ tag' = .w3)) ∧ (mayWake P a = true → a'.status = .running → tag' ≠ .blk) := by
 have h' := h.rely L hr hi'
 unfold Go.Conc.woken
 split
 · rcases h'.status L hR hi' with ⟨q, q2, -⟩ | ⟨q, q2⟩
   · exact ⟨tag, by rw [again_running _ (.inl q)]; exact h', .inl rfl, fun _ _ => q2⟩
   · cases h' with
     | selp h1 h2 =>
       rename_i nx rd g0
       refine ⟨_, ?_, .inl rfl, fun _ _ => by simp⟩
       obtain ⟨s, hs⟩ := ho nx rd rfl
       obtain ⟨-, -, s', hb⟩ := hi'
       have : (parked g0 (F.selC nx) .select).again w' = parked g0 (F.selC nx) .select := by
         unfold Goroutine.again parked
         simp only
         rw [if_neg]
         rw [L.sel_cases]
         by_cases hn : nx < F.many
         · rw [if_pos hn]; simp [scase, rcase, hs, hb]
         · rw [if_neg hn]; simp [rcase, hb]
       rw [this]
       exact .selp h1 h2
     | blk hw h3 =>
       rename_i g0
       have h4 := h3 w' (RelyS.refl _ _ _) hi'
       exact ⟨.w3, by rw [Go.ConcR.again_blocked h4.1 h4.2.1]; exact .w3 hw, .inr ⟨rfl, rfl⟩, fun _ _ => by simp⟩
     | _ => simp at q2
 · rename_i hc
   exact ⟨tag, h', .inl rfl, fun h1 h2 => absurd (by simp [h1, h2]) hc⟩
end
end Go.Proofs.YtajnfkmkombajabDoor
namespace Go.Proofs.YtajnfkmkombajabDoor
open Go Go.Conc Go.ConcN
open Go.ConcR (KK wgBlock WgAt stA smA)
structure WD' (P : Program) where
 st : Nat
 tk : Option Nat
 df : Nat
 lv : Lv P
section
variable {Sp : Nat → Prop} {Own Rd : Nat → Nat → Prop} {j k i : Nat} {w w' : World} {M' : Nat → Prop}
theorem Lay.relies (hL : Lay Sp Own Rd j w.heap.size) (kj : k ≤ j) (h : Moves (Own k) M' w w') (ij : i ≤ j) (hne : i ≠ k) : RelyS (Rd i) (Own i) w w' := by
 refine ⟨h.os, h.out, h.tape, h.size, fun B hB hs => h.keep B hB fun q => ?_⟩
 exact hs.elim (hL.ownRd k i kj ij B q) (hL.own2 k i kj ij (fun e => hne e.symm) B q)
theorem Lay.keeps (hL : Lay Sp Own Rd j w.heap.size) (kj : k ≤ j) (h : Moves (Own k) M' w w') {b : Nat} (hb : Sp b) : w'.heap[b]? = w.heap[b]? := h.keep b (hL.spB b hb) fun q => hL.ownSp k kj b q hb
theorem Lay.move (hL : Lay Sp Own Rd j w.heap.size) (h : Moves (Own k) M' w w') : Lay Sp (upd Own k M') Rd j w'.heap.size := by
 have hs := h.size
 have old : ∀ i, ∀ b, upd Own k M' i b → Own i b ∨ (i = k ∧ w.heap.size ≤ b ∧ b < w'.heap.size) := by
   intro i b hb
   by_cases e : i = k
   · subst e; rw [upd_same] at hb
     exact ((h.mine b).1 hb).imp id fun q => ⟨rfl, q⟩
   · rw [upd_ne _ _ e] at hb; exact .inl hb
 refine ⟨fun b hb => Nat.lt_of_lt_of_le (hL.spB b hb) hs, fun i hi b hb => ?_, fun i hi b hb => Nat.lt_of_lt_of_le (hL.rdB i hi b hb) hs, fun i i' hi hi' hne b hb hb' => ?_, fun i hi b hb hsp => ?_, fun i i' hi hi' b hb hr => ?_, hL.rdSp⟩
 · rcases old i b hb with q | ⟨-, -, q⟩
   · exact Nat.lt_of_lt_of_le (hL.ownB i hi b q) hs
   · exact q
 · rcases old i b hb with q | ⟨e, q, -⟩ <;> rcases old i' b hb' with q' | ⟨e', q', -⟩
   · exact hL.own2 i i' hi hi' hne b q q'
   · have := hL.ownB i hi b q; omega
   · have := hL.ownB i' hi' b q'; omega
   · omega
 · rcases old i b hb with q | ⟨-, q, -⟩
   · exact hL.ownSp i hi b q hsp
   · have := hL.spB b hsp; omega
 · rcases old i b hb with q | ⟨-, q, -⟩
   · exact hL.ownRd i i' hi hi' b q hr
   · have := hL.rdB i' hi' b hr; omega
structure Spec (Sp : Nat → Prop) (w w' : World) : Prop where
 os : w'.os = w.os
 out : w'.output = w.output
 tape : w'.tape = w.tape
 size : w'.heap.size = w.heap.size
 keep : ∀ b, ¬ Sp b → w'.heap[b]? = w.heap[b]?
theorem Spec.refl (Sp : Nat → Prop) (w : World) : Spec Sp w w := ⟨rfl, rfl, rfl, rfl, fun _ _ => rfl⟩
theorem Lay.spec (hL : Lay Sp Own Rd j w.heap.size) (h : Spec Sp w w') (ij : i ≤ j) : RelyS (Rd i) (Own i) w w' :=
 ⟨h.os, h.out, h.tape, Nat.le_of_eq h.size.symm, fun B _ hs => h.keep B fun q => hs.elim (fun z => hL.rdSp i ij B z q) fun z => hL.ownSp i ij B z q⟩
end
section
variable {P : Program} (F : Farm P)
structure Farm.Com (j : Nat) (gs : Array Goroutine) (w : World) (t : Trace) (D : Nat → WD' P) (Own Rd : Nat → Nat → Prop) (Sp : Nat → Prop) (d0 : Nat) : Prop where
 size : gs.size = j + 1
 inv : F.I w
 lay : Lay Sp Own Rd j w.heap.size
 spc : Sp F.Wg ∧ Sp F.Td ∧ Sp F.Bk
 tr : Tr Sp Own Rd j w.heap.size t
 wk : ∀ i, i < j → ∃ g, gs[i + 1]? = some g ∧ F.WSit (Rd (i + 1)) (Own (i + 1)) (D i).st (D i).tk (D i).df (D i).lv g w
 rdsub : ∀ k, k ≤ j → ∀ b, Rd k b → Rd 0 b
 deaf0 : Deaf t 0 = d0
 deafW : ∀ i, i < j → Deaf t (i + 1) = (D i).df
 rel : ∀ i, i < j → (D i).st ≤ 6 → (∃ r, RelBy (stA F.Wg) t (i + 1) r) ∨ Over t (i + 1)
end
section
variable {P : Program} {F : Farm P} {j : Nat} {gs : Array Goroutine} {w w' : World} {t : Trace} {D : Nat → WD' P} {Own Own' Rd : Nat → Nat → Prop} {Sp : Nat → Prop} {d0 : Nat}
theorem Farm.I.at (h : F.I w) (d : Nat) : F.I (w.at d) := h
theorem Farm.Com.at (L : F.Law) (h : F.Com j gs w t D Own Rd Sp d0) (d : Nat) : F.Com j gs (w.at d) t D Own Rd Sp d0 :=
 ⟨h.size, h.inv, h.lay, h.spc, h.tr, fun i hi => let ⟨g, hg, hs⟩ := h.wk i hi; ⟨g, hg, hs.rely L (RelyS.at _ _ w d) h.inv⟩, h.rdsub, h.deaf0, h.deafW, h.rel⟩
def Farm.Still (F : Farm P) (j : Nat) (D : Nat → WD' P) (w : World) : Prop := (∃ s, w.heap[F.Td]? = some (.chan 0 #[] false s s false)) ∨ ∀ i, i < j → (D i).st ≠ 8
theorem Farm.Com.other (L : F.Law) (h : F.Com j gs w t D Own Rd Sp d0) {i : Nat} (hi : i < j) {g : Goroutine} (hg : F.WSit (Rd (i + 1)) (Own (i + 1)) (D i).st (D i).tk (D i).df (D i).lv g w) (hr : RelyS (Rd (i + 1)) (Own (i + 1)) w w') (hI : F.I w') (hq : F.Still j D w') (a a' : Goroutine) :
   F.WSit (Rd (i + 1)) (Own (i + 1)) (D i).st (D i).tk (D i).df (D i).lv (woken P a a' w' g) w' := by
 obtain ⟨s', hb⟩ := hI.2.2
 rcases hq with ⟨s, hs⟩ | hq
 · rw [hg.woken_open L h.inv a a' hs hb]; exact hg.rely L hr hI
 · rw [hg.woken_past L h.inv (hq i hi) a a' hb]; exact hg.rely L hr hI
theorem Farm.Com.stepW (L : F.Law) (h : F.Com j gs w t D Own Rd Sp d0) {i : Nat} (hi : i < j) {g g' : Goroutine} {fn : FuncId} {pos : String} {es : Array Event} {d' : WD' P}
   (hr : ∀ k, k ≤ j → k ≠ i + 1 → RelyS (Rd k) (Own k) w w') (hI : F.I w') (hO : ∀ k, k ≠ i + 1 → Own' k = Own k) (hlay : Lay Sp Own' Rd j w'.heap.size) (htr : Tr Sp Own' Rd j w'.heap.size (t ++ MemOp.ofEvents (i + 1) fn pos es)) (hq : F.Still j D w')
   (hs' : F.WSit (Rd (i + 1)) (Own' (i + 1)) d'.st d'.tk d'.df d'.lv g' w') (hdeaf : deafBehind (D i).df es = d'.df) (hrel : d'.st ≤ 6 → (∃ r, RelBy (stA F.Wg) (t ++ MemOp.ofEvents (i + 1) fn pos es) (i + 1) r) ∨ Over (t ++ MemOp.ofEvents (i + 1) fn pos es) (i + 1)) :
   F.Com j ((gs.map (woken P g g' w')).setIfInBounds (i + 1) g') w' (t ++ MemOp.ofEvents (i + 1) fn pos es) (upd D i d') Own' Rd Sp d0 := by
 refine ⟨by simp [h.size], hI, hlay, h.spc, htr, fun i' hi' => ?_, h.rdsub, by rw [Deaf_other t (by omega) _ Go.ConcR.g_of_ofEvents, h.deaf0], fun i' hi' => ?_, fun i' hi' hst => ?_⟩
 · by_cases e : i' = i
   · subst e
     exact ⟨g', get_map_set_same _ _ _ (by rw [h.size]; omega), by rw [upd_same]; exact hs'⟩
   · obtain ⟨x, hx, hsx⟩ := h.wk i' hi'
     refine ⟨_, by rw [get_map_set _ _ _ _ (by omega), hx, Option.map_some], ?_⟩
     rw [upd_ne D _ e, hO _ (by omega)]
     exact h.other L hi' hsx (hr _ (by omega) (by omega)) hI hq g g'
 · by_cases e : i' = i
   · subst e; rw [Deaf_own, h.deafW i' hi', upd_same]; exact hdeaf
   · rw [Deaf_other t (by omega) _ Go.ConcR.g_of_ofEvents, h.deafW i' hi', upd_ne D _ e]
 · by_cases e : i' = i
   · subst e; rw [upd_same] at hst; exact hrel hst
   · rw [upd_ne D _ e] at hst
     have hno : ∀ op ∈ MemOp.ofEvents (i + 1) fn pos es, op.g ≠ i' + 1 := fun op hop => by rw [Go.ConcR.g_of_ofEvents op hop]; omega
     exact (h.rel i' hi' hst).imp (fun ⟨r, hr⟩ => ⟨r, hr.appNot hno⟩) fun q => q.not hno
theorem Farm.Com.step0 (L : F.Law) (h : F.Com j gs w t D Own Rd Sp d0) {a a' : Goroutine} {fn : FuncId} {pos : String} {es : Array Event}
   (hr : ∀ k, k ≤ j → k ≠ 0 → RelyS (Rd k) (Own k) w w') (hI : F.I w') (hO : ∀ k, k ≠ 0 → Own' k = Own k) (hlay : Lay Sp Own' Rd j w'.heap.size) (htr : Tr Sp Own' Rd j w'.heap.size (t ++ MemOp.ofEvents 0 fn pos es)) (hq : F.Still j D w') :
   F.Com j ((gs.map (woken P a a' w')).setIfInBounds 0 a') w' (t ++ MemOp.ofEvents 0 fn pos es) D Own' Rd Sp (deafBehind d0 es) := by
 refine ⟨by simp [h.size], hI, hlay, h.spc, htr, fun i hi => ?_, h.rdsub, by rw [Deaf_own, h.deaf0], fun i hi => by rw [Deaf_other t (by omega) _ Go.ConcR.g_of_ofEvents, h.deafW i hi], fun i hi hst => ?_⟩
 · obtain ⟨x, hx, hsx⟩ := h.wk i hi
   refine ⟨_, by rw [get_map_set _ _ _ _ (by omega), hx, Option.map_some], ?_⟩
   rw [hO _ (by omega)]
   exact h.other L hi hsx (hr _ (by omega) (by omega)) hI hq a a'
 · have hno : ∀ op ∈ MemOp.ofEvents 0 fn pos es, op.g ≠ i + 1 := fun op hop => by rw [Go.ConcR.g_of_ofEvents op hop]; omega
   exact (h.rel i hi hst).imp (fun ⟨r, hr⟩ => ⟨r, hr.appNot hno⟩) fun q => q.not hno
theorem Farm.Com.moved (h : F.Com j gs w t D Own Rd Sp d0) {k : Nat} (kj : k ≤ j) {M' : Nat → Prop} (hm : Moves (Own k) M' w w') {fn : FuncId} {pos : String} {es : Array Event} (he : ∀ e ∈ es, EvOk (Rd k) M' e) :
   F.I w' ∧ (∀ i, i ≤ j → i ≠ k → RelyS (Rd i) (Own i) w w') ∧ Lay Sp (upd Own k M') Rd j w'.heap.size ∧ Tr Sp (upd Own k M') Rd j w'.heap.size (t ++ MemOp.ofEvents k fn pos es) ∧ (∀ i, i ≠ k → upd Own k M' i = Own i) ∧ w'.heap[F.Wg]? = w.heap[F.Wg]? ∧ w'.heap[F.Td]? = w.heap[F.Td]? := by
 have k1 := h.lay.keeps kj hm h.spc.1
 have k2 := h.lay.keeps kj hm h.spc.2.1
 have k3 := h.lay.keeps kj hm h.spc.2.2
 have hlay := h.lay.move hm
 refine ⟨?_, fun i hi hne => h.lay.relies kj hm hi hne, hlay, ?_, fun i hi => upd_ne _ _ hi, k1, k2⟩
 · obtain ⟨⟨st, sm, e1⟩, ⟨cl, s, e2⟩, s', e3⟩ := h.inv
   exact ⟨⟨st, sm, e1.of_block k1⟩, ⟨cl, s, k2.trans e2⟩, s', k3.trans e3⟩
 · have hg : Tr Sp (upd Own k M') Rd j w'.heap.size t := by
     refine h.tr.grow hm.size (fun i hi b hb => ?_) fun i hi b hb => ?_
     · by_cases e : i = k
       · subst e; rw [upd_same] at hb; exact ((hm.mine b).1 hb).imp id And.left
       · rw [upd_ne _ _ e] at hb; exact .inl hb
     · by_cases e : i = k
       · subst e; rw [upd_same]; exact (hm.mine b).2 (.inl hb)
       · rw [upd_ne _ _ e]; exact hb
   exact hg.own hlay kj fun e hee => by rw [upd_same]; exact he e hee
theorem Farm.Com.turned (h : F.Com j gs w t D Own Rd Sp d0) (hs : Spec Sp w w') : ∀ i, i ≤ j → RelyS (Rd i) (Own i) w w' := fun _ hi => h.lay.spec hs hi
theorem upd_self {α : Type} (f : Nat → α) (k : Nat) : upd f k (f k) = f := funext fun i => by
 by_cases e : i = k
 · subst e; rw [upd_same]
 · rw [upd_ne _ _ e]
end
end Go.Proofs.YtajnfkmkombajabDoor
