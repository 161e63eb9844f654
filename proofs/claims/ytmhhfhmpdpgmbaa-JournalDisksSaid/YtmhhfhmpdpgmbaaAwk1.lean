/- awake: the examples of the chapter: small facts. -/
import Derived.Test.YtmhhfhmpdpgmbaaAwk0
import Derived.Test.YtmhhfhmpdpgmbaaRowsEq
import Derived.Lib.SlBytesConst
namespace Go.Proofs.Ytmhhfhmpdpgmbaa
open Go.RowKit

theorem secOf_length (l : List (Nat × UInt8)) : (secOf l).length = 32 := by
  suffices h : ∀ (l : List (Nat × UInt8)) (s : Sec), s.length = 32 → (l.foldl (fun s p => s.set p.1 p.2) s).length = 32 from h l zeroSec rfl
  intro l
  induction l with
  | nil => intro s h; exact h
  | cons x l ih => intro s h; rw [List.foldl_cons]; exact ih _ (by rw [List.length_set]; exact h)
theorem own_at {w : World} {B : Nat} {v : Value} {S : List Sec} {k : Nat} {s : Sec} (h : w.ownsRow B 53 32 v S.length (S.flatMap sv)) (h32 : ∀ s ∈ S, s.length = 32) {g : Nat} (hg : v.ownBlock = some g) (hs : S[k]? = some s) : w.rangeAt g (k * 32) (sv s) := by
  obtain ⟨hk, hs⟩ := List.getElem?_eq_some_iff.1 hs
  have := own_elem h (fun x hx => by rw [sv_length, h32 x hx]) hg k hk
  rwa [hs] at this
theorem wpList_load_mid_g {P : Program} {ops : Array Oper} {rest : List Oper} {op : Oper} {a : Act} {w : World} {Q : Exit → Act → World → Prop} (hw : Region.wanted op (yielded ops a.tmps) = true) (ty : TypeId) (x : Operand) (ho : op.op = .load ty x)
    (b o : Nat) (hx : a.eval x = .pointer (some ⟨b, o, none⟩)) (cs : List Value) (d : TypeDesc) (hc : w.rangeAt b o cs)
    (hu : P.underlying ty = some d) (hd : d.isRow = true) (hi : (P.info? ty).map (·.size) = some cs.length)
    (h : wpList P ops Q rest (a.put op.dst (.agg cs.toArray)) w) : wpList P ops Q (op :: rest) a w := by
  unfold wpList
  rw [if_pos hw]
  exact .inl (wp_load_mid ty x ho b o hx cs d hc hu hd hi h)
theorem JAt.fresh {B : Nat} {w w1 w2 : World} {j d : Nat} {vs vp vr : Value} {S : List Sec} {P : List (Int × Sec)} {ar ep li en : Nat} {recs : List (List UInt8)} (h : JAt B w1 j d vs vp vr S P ar ep li en recs) (hj : B ≤ j) (hd : B ≤ d) (hB : B = w.heap.size) (hx : Ext NoS w w1) (he : Ext (JS j d vs vp vr) w1 w2) : Ext NoS w w2 := by
  refine hx.trans he fun i hi e => ?_
  rcases e with e | e | e | e | e
  · omega
  · omega
  · have := own_base h.disk.safe e
    omega
  · have := own_base h.disk.pend e
    omega
  · obtain ⟨vals, ho, _⟩ := h.recs
    have := own_base ho e
    omega
theorem append_aw1 {B : Nat} {w : World} {j d : Nat} {vs vp vr : Value} {e : Ending} {w' : World} (h : AppendPost B w j d vs vp vr (newS 8) [] 0 1 1 1 [[]] awL e w') :
    e = .returned (.int .i64 0) ∧ (∃ vp' vr', JAt B w' j d vs vp' vr' (newS 8) awP 0 1 1 3 [[], awL]) ∧ Ext (JS j d vs vp vr) w w' := by
  unfold AppendPost at h
  rw [if_neg (by decide), newS_length, if_neg (by decide)] at h
  obtain ⟨h1, ⟨vp', vr', h2, _⟩, h3⟩ := h
  exact ⟨h1, ⟨vp', vr', h2⟩, h3⟩
theorem append_aw2 {B : Nat} {w : World} {j d : Nat} {vs vp vr : Value} {e : Ending} {w' : World} (h : AppendPost B w j d vs vp vr (newS 8) awP 0 1 1 3 [[], awL] (awL.take 19) e w') :
    e = .returned (.int .i64 4) ∧ Ext NoS w w' := by
  unfold AppendPost at h
  rw [if_neg (by decide), newS_length, if_pos (by decide)] at h
  exact h
theorem append_aw3 {B : Nat} {w : World} {j d : Nat} {vs vp vr : Value} {e : Ending} {w' : World} (h : AppendPost B w j d vs vp vr awS2 [] 0 1 2 1 [[]] [120] e w') :
    e = .returned (.int .i64 0) ∧ (∃ vp' vr', JAt B w' j d vs vp' vr' awS2 awP3 0 1 2 2 [[], [120]]) ∧ Ext (JS j d vs vp vr) w w' := by
  unfold AppendPost at h
  rw [if_neg (by decide), aw_S2_len, if_neg (by decide)] at h
  obtain ⟨h1, ⟨vp', vr', h2, _⟩, h3⟩ := h
  exact ⟨h1, ⟨vp', vr', h2⟩, h3⟩
theorem check_aw {B : Nat} {w : World} {j d : Nat} {vs vp vr : Value} {e : Ending} {w' : World} (h : CheckpointPost B w j d vs vp vr awS2 awP3 0 1 2 [97, 98] e w') :
    e = .returned (.int .i64 0) ∧ (∃ vr', JAt B w' j d vs (.slice none 0 0) vr' awS4 [] 1 2 2 1 [[97, 98]]) ∧ Ext (JS j d vs vp vr) w w' := by
  unfold CheckpointPost at h
  rw [if_neg (by decide), aw_S2_len, if_neg (by decide), if_neg (by decide)] at h
  obtain ⟨h1, ⟨vr', h2, _⟩, h3⟩ := h
  exact ⟨h1, ⟨vr', h2⟩, h3⟩
/-- A block of bytes read as a list, from its start. -/
theorem bytes_lit {w : World} {g n c : Nat} {cs : List Value} {l : List UInt8} (h : BB w g 5 cs.toArray) (hl : l.length = n) (hc : n ≤ c) (he : cs.take n = l.map bv) : Bytes (fun x => ByteBlk w x) w (.slice (some ⟨g, 0, none⟩) n c) l :=
  ⟨some ⟨g, 0, none⟩, c, by rw [hl], by omega, fun _ => ⟨g, 0, rfl, ⟨_, h⟩, by rw [← he]; exact range_take h.all n⟩⟩
theorem conv_const (w : World) (C : Array Value) (n c : Nat) : (convert 46 46 (.slice (some ⟨w.heap.size, 0, none⟩) n c)).run Try.prog (w.alloc (.cells C 5)) = .ok (.slice (some ⟨w.heap.size, 0, none⟩) n c) (w.alloc (.cells C 5 (C.size, C.size + 1))) :=
  Go.Lib.run_convert_bytes_const w 46 5 C n c Try.underlying46 Try.underlying5
theorem conv_const2 (w : World) (m : Nat) (C : Array Value) (n c : Nat) : (convert 46 46 (.slice (some ⟨w.heap.size, 0, none⟩) n c)).run Try.prog ((w.drewN m).alloc (.cells C 5)) = .ok (.slice (some ⟨w.heap.size, 0, none⟩) n c) ((w.drewN m).alloc (.cells C 5 (C.size, C.size + 1))) :=
  conv_const (w.drewN m) C n c
theorem BB.new (w : World) (t : TypeId) (cs : Array Value) (f : Nat × Nat) : BB (w.alloc (.cells cs t f)) w.heap.size t cs := ⟨f, heap_alloc_new w _⟩
theorem range32 {w : World} {g o : Nat} {v0 v1 v2 v3 v4 v5 v6 v7 v8 v9 v10 v11 v12 v13 v14 v15 v16 v17 v18 v19 v20 v21 v22 v23 v24 v25 v26 v27 v28 v29 v30 v31 : Value} (h : w.rangeAt g o [v0, v1, v2, v3, v4, v5, v6, v7, v8, v9, v10, v11, v12, v13, v14, v15, v16, v17, v18, v19, v20, v21, v22, v23, v24, v25, v26, v27, v28, v29, v30, v31]) : w.cell? ⟨g, o + 0, none⟩ = some v0 ∧ w.cell? ⟨g, o + 1, none⟩ = some v1 ∧ w.cell? ⟨g, o + 2, none⟩ = some v2 ∧ w.cell? ⟨g, o + 3, none⟩ = some v3 ∧ w.cell? ⟨g, o + 4, none⟩ = some v4 ∧ w.cell? ⟨g, o + 5, none⟩ = some v5 ∧ w.cell? ⟨g, o + 6, none⟩ = some v6 ∧ w.cell? ⟨g, o + 7, none⟩ = some v7 ∧ w.cell? ⟨g, o + 8, none⟩ = some v8 ∧ w.cell? ⟨g, o + 9, none⟩ = some v9 ∧ w.cell? ⟨g, o + 10, none⟩ = some v10 ∧ w.cell? ⟨g, o + 11, none⟩ = some v11 ∧ w.cell? ⟨g, o + 12, none⟩ = some v12 ∧ w.cell? ⟨g, o + 13, none⟩ = some v13 ∧ w.cell? ⟨g, o + 14, none⟩ = some v14 ∧ w.cell? ⟨g, o + 15, none⟩ = some v15 ∧ w.cell? ⟨g, o + 16, none⟩ = some v16 ∧ w.cell? ⟨g, o + 17, none⟩ = some v17 ∧ w.cell? ⟨g, o + 18, none⟩ = some v18 ∧ w.cell? ⟨g, o + 19, none⟩ = some v19 ∧ w.cell? ⟨g, o + 20, none⟩ = some v20 ∧ w.cell? ⟨g, o + 21, none⟩ = some v21 ∧ w.cell? ⟨g, o + 22, none⟩ = some v22 ∧ w.cell? ⟨g, o + 23, none⟩ = some v23 ∧ w.cell? ⟨g, o + 24, none⟩ = some v24 ∧ w.cell? ⟨g, o + 25, none⟩ = some v25 ∧ w.cell? ⟨g, o + 26, none⟩ = some v26 ∧ w.cell? ⟨g, o + 27, none⟩ = some v27 ∧ w.cell? ⟨g, o + 28, none⟩ = some v28 ∧ w.cell? ⟨g, o + 29, none⟩ = some v29 ∧ w.cell? ⟨g, o + 30, none⟩ = some v30 ∧ w.cell? ⟨g, o + 31, none⟩ = some v31 :=
  ⟨h 0 _ rfl, h 1 _ rfl, h 2 _ rfl, h 3 _ rfl, h 4 _ rfl, h 5 _ rfl, h 6 _ rfl, h 7 _ rfl, h 8 _ rfl, h 9 _ rfl, h 10 _ rfl, h 11 _ rfl, h 12 _ rfl, h 13 _ rfl, h 14 _ rfl, h 15 _ rfl, h 16 _ rfl, h 17 _ rfl, h 18 _ rfl, h 19 _ rfl, h 20 _ rfl, h 21 _ rfl, h 22 _ rfl, h 23 _ rfl, h 24 _ rfl, h 25 _ rfl, h 26 _ rfl, h 27 _ rfl, h 28 _ rfl, h 29 _ rfl, h 30 _ rfl, h 31 _ rfl⟩
theorem eq_A0 (w : World) : (Op.equalIn 10000 53 (.agg #[Value.int .u8 0, Value.int .u8 0, Value.int .u8 0, Value.int .u8 1, Value.int .u8 0, Value.int .u8 0, Value.int .u8 0, Value.int .u8 1, Value.int .u8 0, Value.int .u8 0, Value.int .u8 0, Value.int .u8 0, Value.int .u8 3, Value.int .u8 0, Value.int .u8 0, Value.int .u8 0, Value.int .u8 0, Value.int .u8 0, Value.int .u8 0, Value.int .u8 0, Value.int .u8 0, Value.int .u8 0, Value.int .u8 0, Value.int .u8 0, Value.int .u8 0, Value.int .u8 0, Value.int .u8 0, Value.int .u8 0, Value.int .u8 0, Value.int .u8 0, Value.int .u8 0, Value.int .u8 0]) (.agg #[Value.int .u8 0, Value.int .u8 0, Value.int .u8 0, Value.int .u8 1, Value.int .u8 0, Value.int .u8 0, Value.int .u8 0, Value.int .u8 1, Value.int .u8 0, Value.int .u8 0, Value.int .u8 0, Value.int .u8 0, Value.int .u8 3, Value.int .u8 0, Value.int .u8 0, Value.int .u8 0, Value.int .u8 0, Value.int .u8 0, Value.int .u8 0, Value.int .u8 0, Value.int .u8 0, Value.int .u8 0, Value.int .u8 0, Value.int .u8 0, Value.int .u8 0, Value.int .u8 0, Value.int .u8 0, Value.int .u8 0, Value.int .u8 0, Value.int .u8 0, Value.int .u8 0, Value.int .u8 0])).run Try.prog w = .ok true w := by
  have h := run_equalIn_bytes (P := Try.prog) w 9998 53 5 32 Try.underlying53 Try.underlying5 size1w (secOf [(3, 1), (7, 1), (12, 3)]) (secOf [(3, 1), (7, 1), (12, 3)]) rfl rfl
  exact h.trans (by rw [beq_self_eq_true])
theorem eq_P1 (w : World) : (Op.equalIn 10000 53 (.agg #[Value.int .u8 0, Value.int .u8 0, Value.int .u8 0, Value.int .u8 1, Value.int .u8 0, Value.int .u8 0, Value.int .u8 0, Value.int .u8 1, Value.int .u8 0, Value.int .u8 0, Value.int .u8 0, Value.int .u8 2, Value.int .u8 2, Value.int .u8 2, Value.int .u8 115, Value.int .u8 116, Value.int .u8 0, Value.int .u8 0, Value.int .u8 0, Value.int .u8 0, Value.int .u8 0, Value.int .u8 0, Value.int .u8 0, Value.int .u8 0, Value.int .u8 0, Value.int .u8 0, Value.int .u8 0, Value.int .u8 0, Value.int .u8 0, Value.int .u8 0, Value.int .u8 0, Value.int .u8 0]) (.agg #[Value.int .u8 0, Value.int .u8 0, Value.int .u8 0, Value.int .u8 1, Value.int .u8 0, Value.int .u8 0, Value.int .u8 0, Value.int .u8 1, Value.int .u8 0, Value.int .u8 0, Value.int .u8 0, Value.int .u8 2, Value.int .u8 2, Value.int .u8 2, Value.int .u8 115, Value.int .u8 116, Value.int .u8 0, Value.int .u8 0, Value.int .u8 0, Value.int .u8 0, Value.int .u8 0, Value.int .u8 0, Value.int .u8 0, Value.int .u8 0, Value.int .u8 0, Value.int .u8 0, Value.int .u8 0, Value.int .u8 0, Value.int .u8 0, Value.int .u8 0, Value.int .u8 0, Value.int .u8 0])).run Try.prog w = .ok true w := by
  have h := run_equalIn_bytes (P := Try.prog) w 9998 53 5 32 Try.underlying53 Try.underlying5 size1w (secOf [(3, 1), (7, 1), (11, 2), (12, 2), (13, 2), (14, 115), (15, 116)]) (secOf [(3, 1), (7, 1), (11, 2), (12, 2), (13, 2), (14, 115), (15, 116)]) rfl rfl
  exact h.trans (by rw [beq_self_eq_true])
theorem eq_S41 (w : World) : (Op.equalIn 10000 53 (.agg #[Value.int .u8 0, Value.int .u8 0, Value.int .u8 0, Value.int .u8 1, Value.int .u8 0, Value.int .u8 0, Value.int .u8 0, Value.int .u8 2, Value.int .u8 0, Value.int .u8 0, Value.int .u8 0, Value.int .u8 1, Value.int .u8 3, Value.int .u8 1, Value.int .u8 120, Value.int .u8 0, Value.int .u8 0, Value.int .u8 0, Value.int .u8 0, Value.int .u8 0, Value.int .u8 0, Value.int .u8 0, Value.int .u8 0, Value.int .u8 0, Value.int .u8 0, Value.int .u8 0, Value.int .u8 0, Value.int .u8 0, Value.int .u8 0, Value.int .u8 0, Value.int .u8 0, Value.int .u8 0]) (.agg #[Value.int .u8 0, Value.int .u8 0, Value.int .u8 0, Value.int .u8 1, Value.int .u8 0, Value.int .u8 0, Value.int .u8 0, Value.int .u8 2, Value.int .u8 0, Value.int .u8 0, Value.int .u8 0, Value.int .u8 1, Value.int .u8 3, Value.int .u8 1, Value.int .u8 120, Value.int .u8 0, Value.int .u8 0, Value.int .u8 0, Value.int .u8 0, Value.int .u8 0, Value.int .u8 0, Value.int .u8 0, Value.int .u8 0, Value.int .u8 0, Value.int .u8 0, Value.int .u8 0, Value.int .u8 0, Value.int .u8 0, Value.int .u8 0, Value.int .u8 0, Value.int .u8 0, Value.int .u8 0])).run Try.prog w = .ok true w := by
  have h := run_equalIn_bytes (P := Try.prog) w 9998 53 5 32 Try.underlying53 Try.underlying5 size1w (secOf [(3, 1), (7, 2), (11, 1), (12, 3), (13, 1), (14, 120)]) (secOf [(3, 1), (7, 2), (11, 1), (12, 3), (13, 1), (14, 120)]) rfl rfl
  exact h.trans (by rw [beq_self_eq_true])
theorem eq_S44 (w : World) : (Op.equalIn 10000 53 (.agg #[Value.int .u8 0, Value.int .u8 0, Value.int .u8 0, Value.int .u8 2, Value.int .u8 0, Value.int .u8 0, Value.int .u8 0, Value.int .u8 2, Value.int .u8 0, Value.int .u8 0, Value.int .u8 0, Value.int .u8 0, Value.int .u8 3, Value.int .u8 2, Value.int .u8 97, Value.int .u8 98, Value.int .u8 0, Value.int .u8 0, Value.int .u8 0, Value.int .u8 0, Value.int .u8 0, Value.int .u8 0, Value.int .u8 0, Value.int .u8 0, Value.int .u8 0, Value.int .u8 0, Value.int .u8 0, Value.int .u8 0, Value.int .u8 0, Value.int .u8 0, Value.int .u8 0, Value.int .u8 0]) (.agg #[Value.int .u8 0, Value.int .u8 0, Value.int .u8 0, Value.int .u8 2, Value.int .u8 0, Value.int .u8 0, Value.int .u8 0, Value.int .u8 2, Value.int .u8 0, Value.int .u8 0, Value.int .u8 0, Value.int .u8 0, Value.int .u8 3, Value.int .u8 2, Value.int .u8 97, Value.int .u8 98, Value.int .u8 0, Value.int .u8 0, Value.int .u8 0, Value.int .u8 0, Value.int .u8 0, Value.int .u8 0, Value.int .u8 0, Value.int .u8 0, Value.int .u8 0, Value.int .u8 0, Value.int .u8 0, Value.int .u8 0, Value.int .u8 0, Value.int .u8 0, Value.int .u8 0, Value.int .u8 0])).run Try.prog w = .ok true w := by
  have h := run_equalIn_bytes (P := Try.prog) w 9998 53 5 32 Try.underlying53 Try.underlying5 size1w (secOf [(3, 2), (7, 2), (12, 3), (13, 2), (14, 97), (15, 98)]) (secOf [(3, 2), (7, 2), (12, 3), (13, 2), (14, 97), (15, 98)]) rfl rfl
  exact h.trans (by rw [beq_self_eq_true])
theorem sv_A0 : sv (secOf [(3, 1), (7, 1), (12, 3)]) = [Value.int .u8 0, Value.int .u8 0, Value.int .u8 0, Value.int .u8 1, Value.int .u8 0, Value.int .u8 0, Value.int .u8 0, Value.int .u8 1, Value.int .u8 0, Value.int .u8 0, Value.int .u8 0, Value.int .u8 0, Value.int .u8 3, Value.int .u8 0, Value.int .u8 0, Value.int .u8 0, Value.int .u8 0, Value.int .u8 0, Value.int .u8 0, Value.int .u8 0, Value.int .u8 0, Value.int .u8 0, Value.int .u8 0, Value.int .u8 0, Value.int .u8 0, Value.int .u8 0, Value.int .u8 0, Value.int .u8 0, Value.int .u8 0, Value.int .u8 0, Value.int .u8 0, Value.int .u8 0] := rfl
theorem sv_P1 : sv (secOf [(3, 1), (7, 1), (11, 2), (12, 2), (13, 2), (14, 115), (15, 116)]) = [Value.int .u8 0, Value.int .u8 0, Value.int .u8 0, Value.int .u8 1, Value.int .u8 0, Value.int .u8 0, Value.int .u8 0, Value.int .u8 1, Value.int .u8 0, Value.int .u8 0, Value.int .u8 0, Value.int .u8 2, Value.int .u8 2, Value.int .u8 2, Value.int .u8 115, Value.int .u8 116, Value.int .u8 0, Value.int .u8 0, Value.int .u8 0, Value.int .u8 0, Value.int .u8 0, Value.int .u8 0, Value.int .u8 0, Value.int .u8 0, Value.int .u8 0, Value.int .u8 0, Value.int .u8 0, Value.int .u8 0, Value.int .u8 0, Value.int .u8 0, Value.int .u8 0, Value.int .u8 0] := rfl
theorem sv_S41 : sv (secOf [(3, 1), (7, 2), (11, 1), (12, 3), (13, 1), (14, 120)]) = [Value.int .u8 0, Value.int .u8 0, Value.int .u8 0, Value.int .u8 1, Value.int .u8 0, Value.int .u8 0, Value.int .u8 0, Value.int .u8 2, Value.int .u8 0, Value.int .u8 0, Value.int .u8 0, Value.int .u8 1, Value.int .u8 3, Value.int .u8 1, Value.int .u8 120, Value.int .u8 0, Value.int .u8 0, Value.int .u8 0, Value.int .u8 0, Value.int .u8 0, Value.int .u8 0, Value.int .u8 0, Value.int .u8 0, Value.int .u8 0, Value.int .u8 0, Value.int .u8 0, Value.int .u8 0, Value.int .u8 0, Value.int .u8 0, Value.int .u8 0, Value.int .u8 0, Value.int .u8 0] := rfl
theorem sv_S44 : sv (secOf [(3, 2), (7, 2), (12, 3), (13, 2), (14, 97), (15, 98)]) = [Value.int .u8 0, Value.int .u8 0, Value.int .u8 0, Value.int .u8 2, Value.int .u8 0, Value.int .u8 0, Value.int .u8 0, Value.int .u8 2, Value.int .u8 0, Value.int .u8 0, Value.int .u8 0, Value.int .u8 0, Value.int .u8 3, Value.int .u8 2, Value.int .u8 97, Value.int .u8 98, Value.int .u8 0, Value.int .u8 0, Value.int .u8 0, Value.int .u8 0, Value.int .u8 0, Value.int .u8 0, Value.int .u8 0, Value.int .u8 0, Value.int .u8 0, Value.int .u8 0, Value.int .u8 0, Value.int .u8 0, Value.int .u8 0, Value.int .u8 0, Value.int .u8 0, Value.int .u8 0] := rfl
end Go.Proofs.Ytmhhfhmpdpgmbaa
