/- A range over a function whose iterator keeps its state in cells. -/
import Derived.Test.YtmhhfhmpdpgmbaaRange
namespace Go.Proofs.Ytmhhfhmpdpgmbaa
open Go.RowKit

/-- A block that a round may turn: none of the iterator's. -/
def Loud (W : World) (b : Nat) : Prop := ¬ ∃ t cs, (t = 85 ∨ t = 46 ∨ t = 5) ∧ BB W b t cs
/-- A block of a disk. -/
def Turn (W : World) (b : Nat) : Prop := ∃ t cs, (t = 25 ∨ t = 55) ∧ Blk W b t cs

theorem ext_putObj (W : World) (l : Nat) (o : Obj) : Ext (fun b => b = l) W (W.putObj l o) := by
  have h := grownBy_putObj' W l o
  exact ⟨h.os, h.tape, h.output, h.size, fun k hk hn => h.block k hk (fun e => hn (by injection e))⟩
theorem heap_ext {S : Nat → Prop} {W W' : World} {l : Nat} {o : Obj} (h : W.heap[l]? = some o) (he : Ext S W W') (hn : ¬ S l) : W'.heap[l]? = some o := by
  rw [he.block l (Array.getElem?_eq_some_iff.1 h).1 hn]; exact h
theorem BB.not_at {W : World} {b : Nat} {t : TypeId} {cs : Array Value} (h : BB W b t cs) {o : Obj} (ho : W.heap[b]? = some o) (hc : o.isCells = false) : False := by
  obtain ⟨f, h⟩ := h
  rw [h] at ho
  injection ho with ho
  subst ho
  cases hc
theorem Blk.not_at {W : World} {b : Nat} {t : TypeId} {cs : Array Value} (h : Blk W b t cs) {o : Obj} (ho : W.heap[b]? = some o) (hc : o.isCells = false) : False := by
  unfold Blk at h
  rw [h] at ho
  injection ho with ho
  subst ho
  cases hc

/-- How the body of a round is left. -/
def rPost (I : World → Prop) (W : World) : Exit → Act → World → Prop
  | .normal, _, W' => Ext (Turn W) W W' ∧ I W'
  | _, _, _ => False

set_option maxHeartbeats 1000000 in
theorem wpIn_range_own {P : Program} {n : Nat} (h1 : 1 ≤ n) {g : Operand} {ps : Array Tmp} {assign body : Code} {Q : Exit → Act → World → Prop} {a : Act} {w : World} {gf : Nat} {lb : Array Value}
    (hg : a.eval g = .func (.func gf) #[] lb) (eg : ∀ args w, (callFunc gf args).run P w = .ok (.enter gf args) w)
    (N : Nat) (encs : Nat → Array Value) (hps : ∀ k, (encs k).size = ps.size) (I : Nat → World → Prop)
    (hI : ∀ k W W', I k W → Ext (fun b => b = w.heap.size ∨ b = w.heap.size + 1) W W' → I k W') (h0 : I 0 w)
    (hseq : ∀ (r : Loop) (W : World),
      (∀ k W, k < N → (I k W ∧ W.heap[w.heap.size + 1]? = some (.loop r) ∧ W.heap[w.heap.size]? = some (.deferred (some []))) → YieldAt Fence.wide (n - 1 - 1) P (w.heap.size + 1) (encs k) W fun en W' =>
        en = .returned (.bool true) ∧ (I (k + 1) W' ∧ W'.heap[w.heap.size + 1]? = some (.loop r) ∧ W'.heap[w.heap.size]? = some (.deferred (some []))) ∧ Ext (Loud W) W W') →
      (I 0 W ∧ W.heap[w.heap.size + 1]? = some (.loop r) ∧ W.heap[w.heap.size]? = some (.deferred (some []))) → Ext NoS w W →
      CallsIn Fence.wide (n - 1) P gf (#[.func (.yield (w.heap.size + 1)) #[] #[]] ++ lb) W fun e W' => (∃ v, e = .returned v) ∧ (I N W' ∧ W'.heap[w.heap.size + 1]? = some (.loop r) ∧ W'.heap[w.heap.size]? = some (.deferred (some []))))
    (hround : ∀ k W K, k < N → I k W → w.heap.size + 2 ≤ W.heap.size → (∀ t cs, ¬ Blk W (w.heap.size + 1) t cs) →
      (∀ a1 W1, Ext NoS W W1 → (∀ W2, Ext (fun b => b = w.heap.size + 1) W1 W2 → body.wpIn (Fence.wide.inRound (w.heap.size + 1)) (n - 1 - 1) P (rPost (I (k + 1)) W2) a1 W2) → K a1 W1) →
      assign.wpIn (Fence.wide.inRound (w.heap.size + 1)) (n - 1 - 1) P (Exit.then K (fun _ _ _ => False)) { tmps := (ps.zip (encs k)).foldl (fun t (p, v) => t.setIfInBounds p v) a.tmps, defers := [] } W)
    (hdone : ∀ W, I N W → W.heap[w.heap.size]? = some (.deferred (some [])) → Q .normal { a with defers := { target := .collected w.heap.size, args := #[] } :: a.defers } W) :
    (Code.rangeFunc g ps assign body).wpIn Fence.wide n P Q a w := by
  refine wpIn_rangeFunc ?_
  intro fn _
  obtain ⟨rec, hrec⟩ : ∃ rec : LoopState → Loop, rec = fun st => { state := st, pending := none, fn, tmps := a.tmps, params := ps, assign, body, defers := w.heap.size } := ⟨_, rfl⟩
  obtain ⟨W1, hW1⟩ : ∃ W1, (w.alloc (.deferred (some []))).alloc (.loop (rec .ready)) = W1 := ⟨_, rfl⟩
  have hL1 : W1.heap[w.heap.size + 1]? = some (.loop (rec .ready)) := by
    rw [← hW1]; have := World.alloc_heap_new (w.alloc (.deferred (some []))) (.loop (rec .ready)); rwa [World.size_alloc] at this
  have hK1 : W1.heap[w.heap.size]? = some (.deferred (some [])) := by
    rw [← hW1]; exact (Below.heap_alloc _ _ _ (by simp)).trans (World.alloc_heap_new w _)
  have hE1 : Ext NoS w W1 := by rw [← hW1]; exact ((Ext.refl _ _).alloc _).alloc _
  refine ⟨w.heap.size + 1, [{ target := .collected w.heap.size, args := #[] }], W1, { target := .fn (.func gf) lb, args := #[.func (.yield (w.heap.size + 1)) #[] #[]] }, W1, gf,
    #[.func (.yield (w.heap.size + 1)) #[] #[]] ++ lb, W1, ?_, ?_, fun _ _ => trivial, ?_, fun _ => h1, ?_⟩
  · rw [← hW1, hrec]; exact run_enterLoop_outer _ _ _ _ _
  · simp only [resolve, hg]
    simp [go_sem]
  · simp [invoke, go_sem, eg]
  · refine (hseq (rec .ready) W1 ?_ ⟨hI 0 _ _ h0 hE1.of_no, hL1, hK1⟩ hE1).mono ?_
    · rintro k W hk ⟨hi, hl, hd⟩
      have hy := run_yield (P := P) (args := encs k) hl (by rw [hrec]; exact hps k)
      rw [hrec] at hy
      refine ⟨fn, _, assign, body, hy, roundIn_of_wpIn trivial (hround k W _ hk hi (by have := (Array.getElem?_eq_some_iff.1 hl).1; omega) (fun t cs hb => hb.not_at hl rfl) ?_)⟩
      intro a1 W2 hE2 hbody
      have hl2 := heap_ext hl hE2 (fun h => h)
      have hd2 := heap_ext hd hE2 (fun h => h)
      refine ⟨_, run_beginRound hl2 (by rw [hrec]), wpIn_mono (hbody _ (ext_putObj _ _ _)) ?_⟩
      have hl3 : (W2.putObj (w.heap.size + 1) (.loop { rec .ready with state := .busy })).heap[w.heap.size + 1]? = some (.loop { rec .ready with state := .busy }) := World.putObj_heap_same (Array.getElem?_eq_some_iff.1 hl2).1
      have hd3 : (W2.putObj (w.heap.size + 1) (.loop { rec .ready with state := .busy })).heap[w.heap.size]? = some (.deferred (some [])) := (World.putObj_heap_other (by omega)).trans hd2
      rintro e a3 W3 hp
      cases e with
      | normal =>
        obtain ⟨hE3, hi3⟩ := hp
        have hl4 := heap_ext hl3 hE3 (fun ⟨t, cs, _, hb⟩ => hb.not_at hl3 rfl)
        have hd4 := heap_ext hd3 hE3 (fun ⟨t, cs, _, hb⟩ => hb.not_at hd3 rfl)
        have hend := run_endRound (P := P) none hl4
        have hr : ({ rec .ready with state := .busy } : Loop) = rec .busy := by rw [hrec]
        refine ⟨_, _, hend, rfl, ⟨hI _ _ _ hi3 ((ext_putObj _ _ _).mono (fun _ _ h => .inr h)), ?_, (World.putObj_heap_other (by omega)).trans hd4⟩, ?_⟩
        · rw [World.putObj_heap_same (Array.getElem?_eq_some_iff.1 hl4).1, hrec]
          rfl
        · have hloud : Loud W (w.heap.size + 1) := fun ⟨t, cs, _, hb⟩ => hb.not_at hl rfl
          refine (((hE2.of_no (S := Loud W)).trans (ext_putObj _ _ _) (fun i _ e => e ▸ hloud)).trans hE3 (fun i hi ht hb => ?_)).trans (ext_putObj _ _ _) (fun i _ e => e ▸ hloud)
          obtain ⟨t, cs, ht, hb1⟩ := ht
          obtain ⟨t', cs', ht', hb2⟩ := hb
          have hne : ¬ (i = w.heap.size + 1) := fun e => (e ▸ hb1).not_at hl3 rfl
          have hb3 := (hb2.ext hE2 (fun h => h)).ext (ext_putObj W2 (w.heap.size + 1) (.loop { rec .ready with state := .busy })) hne
          refine hb3.ne_ hb1 ?_ rfl
          rcases ht with rfl | rfl <;> rcases ht' with rfl | rfl | rfl <;> decide
      | _ => exact hp.elim
    · rintro e W2 ⟨⟨v, rfl⟩, hi, hl, hd⟩
      have he : (Instr.endLoop (w.heap.size + 1)).run P W2 = .ok none (W2.putObj (w.heap.size + 1) (.loop { rec .ready with state := .exhausted })) := by
        have := run_endLoop (P := P) hl (by rw [hrec]; simp)
        rw [hrec] at this ⊢
        exact this
      exact ⟨none, _, he, hdone _ (hI _ _ _ hi ((ext_putObj _ _ _).mono (fun _ _ h => .inr h))) ((World.putObj_heap_other (by omega)).trans hd)⟩
end Go.Proofs.Ytmhhfhmpdpgmbaa
