/- Copies of rows by 'append([]T{}, l...)'; blocks that are none of a journal's. -/
import Derived.Test.YtmhhfhmpdpgmbaaKept
import Derived.Test.YtmhhfhmpdpgmbaaEq
namespace Go.Proofs.Ytmhhfhmpdpgmbaa
open Go.RowKit

theorem own_src {w : World} {B : Nat} {e : TypeId} {size n m c : Nat} {A : Option Addr} {xs : List Value} (h : w.ownsRow B e size (.slice A n c) m xs) (hn : xs ≠ []) : ∃ b o, A = some ⟨b, o, none⟩ ∧ w.rangeAt b o xs := by
  rcases h.2 with ⟨_, h0⟩ | ⟨g, cap, cur, hv, _⟩
  · have := h.1
    rw [h0] at this
    exact absurd (List.eq_nil_of_length_eq_zero (by omega)) hn
  · have hA : A = some ⟨g, 0, none⟩ := by injection hv
    subst hA
    exact ⟨g, 0, rfl, own_range h rfl⟩
theorem own_empty (w : World) (e : TypeId) (size : Nat) : (w.alloc (.cells #[] e)).ownsRow w.heap.size e size (.slice (some ⟨w.heap.size, 0, none⟩) 0 0) 0 [] := by
  refine ⟨by simp, .inr ⟨w.heap.size, 0, #[], rfl, Nat.le_refl _, heap_alloc_new w _, Nat.le_refl _, by unfold maxLen; omega, by simp, by simp⟩⟩
theorem ext_copy {w w6 : World} {o : Obj} (h : (w.alloc o).grownBy w6 (Value.ownBlock (.slice (some ⟨w.heap.size, 0, none⟩) 0 0))) : Ext NoS w w6 :=
  ((Ext.refl NoS w).alloc o).grown h (fun g hg => .inr (by simp [Value.ownBlock] at hg; omega))
theorem secs_one (S : List Sec) : ∀ u ∈ S.flatMap sv, u.oneCell' = true := fun u hu => by
  obtain ⟨s, _, hs⟩ := List.mem_flatMap.1 hu
  exact sv_one s u hs
theorem writes_one (P : List (Int × Sec)) : ∀ u ∈ P.flatMap wv, u.oneCell' = true := fun u hu => by
  obtain ⟨s, _, hs⟩ := List.mem_flatMap.1 hu
  exact wv_one s u hs
/-- In a quiet walk: a row is loaded by value. -/
theorem wpQuiet_load_mid {P : Program} {ops : Array Oper} {C : World → Prop} {Q : Act → Prop} {a : Act} {o : Oper} {rest : List Oper} (hw : Region.wanted o (yielded ops a.tmps) = true) (ty : TypeId) (x : Operand) (ho : o.op = .load ty x)
    (b off : Nat) (hx : a.eval x = .pointer (some ⟨b, off, none⟩)) (cs : List Value) (d : TypeDesc) (hc : ∀ w, C w → w.rangeAt b off cs)
    (hu : P.underlying ty = some d) (hd : d.isRow = true) (hi : (P.info? ty).map (·.size) = some cs.length) (h : wpQuiet P ops C Q rest (a.put o.dst (.agg cs.toArray))) : wpQuiet P ops C Q (o :: rest) a :=
  BigFrame.wpQuiet_want hw fun K hK => ⟨_, fun w hw => by
    unfold Oper.quietAt execOp
    simp only [ho, hx, Instr.loadAt, Instr.sureAddr, Sem.run_bind, Sem.run_pure, Result.andThen_ok, run_loadVar_mid w b off ty cs d (hc w hw) hu hd hi]
    exact ⟨rfl, rfl⟩, hK _ h⟩
theorem secRange {w : World} {B g k : Nat} {v : Value} {S : List Sec} {s : Sec} (h : w.ownsRow B 53 32 v S.length (S.flatMap sv)) (h32 : ∀ s ∈ S, s.length = 32) (hg : v.ownBlock = some g) (hk : k < S.length) (hs : S[k] = s) : ∀ W : World, (∃ n, W = w.drewN n) → W.rangeAt g (k * 32) (sv s) := fun W ⟨n, e⟩ => by
  subst e hs
  exact own_elem h (fun x hx => by rw [sv_length, h32 x hx]) hg k hk

/-- A record of the laws. -/
theorem record_b (k l mk : Nat) (lo : Int) (n : Nat) (w : World) (hl : l < 256) (hmk : mk < 256) (hn : n ≤ 1000) : ∃ rb : List UInt8, rb.length ≤ 60 ∧ rb = recB l mk n ∧
    Calls Try.prog 18 #[.agg #[.int .u8 k, .int .u8 l, .int .u8 mk, .int .u64 lo], .int .i64 n] w fun e w' => ∃ A c, e = .returned (.slice A rb.length c) ∧ Bytes (fun x => ByteBlk w' x) w' (.slice A rb.length c) rb ∧ Ext NoS w w' := by
  refine ⟨recB l mk n, by rw [recB_length]; have := Nat.mod_lt l (show 0 < 61 by decide); omega, rfl, (record_t k l mk lo n w hl hmk hn).mono fun e w' h => ?_⟩
  obtain ⟨v, rfl, ho, hE⟩ := h
  rw [← recB_length l mk n] at ho
  obtain ⟨A, c, rfl, _, _⟩ := own_slice ho
  exact ⟨A, c, rfl, (Bytes.of_ownB ho).mono (fun x _ h => h.2), hE⟩

section
variable {B : Nat} {w : World} {j d : Nat} {vs vp vr : Value} {S : List Sec} {P : List (Int × Sec)} {ar ep li en : Nat} {recs : List (List UInt8)}
/-- A block of another type is none of the disk's. -/
theorem ne_disk (h : JAt B w j d vs vp vr S P ar ep li en recs) {x : Nat} {t : TypeId} {cs : Array Value} (hb : BB w x t cs) (h1 : t ≠ 25) (h2 : t ≠ 53) : ¬ DiskS d vs x := fun h' => by
  rcases h' with h' | h'
  · exact (h' ▸ hb).ne_ h.disk.blk h1 rfl
  · exact own_neB h.disk.safe hb (fun e => h2 e.symm) h'
theorem ne_js (h : JAt B w j d vs vp vr S P ar ep li en recs) {x : Nat} {t : TypeId} {cs : Array Value} (hb : BB w x t cs) (h0 : t ≠ 82) (h1 : t ≠ 25) (h2 : t ≠ 53) (h3 : t ≠ 55) (h4 : t ≠ 46) : ¬ JS j d vs vp vr x := fun h' => by
  rcases h' with h' | h' | h' | h' | h'
  · exact (h' ▸ hb).ne_ h.jb h0 rfl
  · exact (h' ▸ hb).ne_ h.disk.blk h1 rfl
  · exact own_neB h.disk.safe hb (fun e => h2 e.symm) h'
  · exact own_neB h.disk.pend hb (fun e => h3 e.symm) h'
  · obtain ⟨vals, ho, _⟩ := h.recs
    exact own_neB ho hb (fun e => h4 e.symm) h'
/-- The blocks of a journal are there. -/
theorem js_lt (h : JAt B w j d vs vp vr S P ar ep li en recs) {x : Nat} (hx : JS j d vs vp vr x) : x < w.heap.size := by
  rcases hx with rfl | rfl | hx | hx | hx
  · exact h.jb.lt
  · exact h.disk.blk.lt
  · obtain ⟨cur, hc, _⟩ := own_blk h.disk.safe hx
    exact hc.lt
  · obtain ⟨cur, hc, _⟩ := own_blk h.disk.pend hx
    exact hc.lt
  · obtain ⟨vals, ho, _⟩ := h.recs
    obtain ⟨cur, hc, _⟩ := own_blk ho hx
    exact hc.lt
end
end Go.Proofs.Ytmhhfhmpdpgmbaa
