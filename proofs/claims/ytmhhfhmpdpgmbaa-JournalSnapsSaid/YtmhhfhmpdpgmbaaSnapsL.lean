/- JournalSnaps: whatever the input, the Go text returns true, and the input reads as it did. -/
import Derived.Test.YtmhhfhmpdpgmbaaRows
import Derived.Test.YtmhhfhmpdpgmbaaSnaps
import Derived.Test.YtmhhfhmpdpgmbaaStepP
import Derived.Lib.SmallJoins
namespace Go.Proofs.Ytmhhfhmpdpgmbaa
open Go.ChangeShapes Go.WideShapes Go.ChangeAt Go.RowKit Go.Deep

set_option maxRecDepth 100000 in
theorem liftedSnaps (os : Os) (started : os.Started) (H : Type) (enc : TypeId × Value → H) :
    ReturnsInHanded {} Try.checked os 8 .any (Rows.journalSnapsSpec.pre6 enc Try.prog Try.f8 Rows.journalSnapsRow.domain false) (Rows.journalSnapsSpec.post enc Try.prog Try.f8 false true false false) := by
  refine returnsInHanded_of_change (C := Try.checked) knobOwn started (by kernel_rfl) Try.func8
    (ChangeSpec.witness6 (enc := enc) (C := Try.checked) false ⟨#[], #[.int .u8 0, .slice none 0 0, .agg #[.int .u8 0, .int .u8 0, .int .u8 0, .int .u64 0], .int .u64 0], []⟩ 8 (by kernel_rfl) (by kernel_rfl) (by kernel_rfl) (by kernel_rfl)) ?_
  intro W base args ds gs before hval0 hW hcnd _
  have hval : ∀ (j : Nat) t v, Try.f8.params[j]? = some t → args[j]? = some v → Value.okWide Try.prog W .any base t v := hval0
  have hW' := hW
  obtain ⟨p, q, hA0, hV, rfl, hfz, hnd⟩ := hW
  have hA : DataW.TrodAll enc Try.prog W 0 (fun _ => true) true Try.f8.params.toList args.toList ds p := hA0
  rw [Try.params8] at hA hval
  obtain ⟨v0, vs0, d0, ds0, p0, q0, hargs, rfl, rfl, h0, r0⟩ := trodAll_cons hA
  obtain ⟨v1, vs1, d1, ds1, p1, q1, rfl, rfl, rfl, h1, r1⟩ := trodAll_cons r0
  obtain ⟨v2, vs2, d2, ds2, p2, q2, rfl, rfl, rfl, h2, r2⟩ := trodAll_cons r1
  obtain ⟨v3, vs3, d3, ds3, p3, q3, rfl, rfl, rfl, h3, r3⟩ := trodAll_cons r2
  obtain ⟨rfl, rfl, rfl⟩ := trodAll_nil r3
  obtain rfl : args = #[v0, v1, v2, v3] := by cases args; simp_all
  obtain ⟨rfl, rfl⟩ := trodVars_none hV
  obtain ⟨a0, rfl, rfl, rfl, w0⟩ := open_int Try.underlying5 (hval 0 5 v0 rfl rfl) h0
  obtain ⟨a1, len1, cap1, rfl⟩ := okWide_slice Try.underlying40 (hval 1 40 v1 rfl rfl)
  obtain ⟨a3, rfl, rfl, rfl, w3⟩ := open_int Try.underlying26 (hval 3 26 v3 rfl rfl) h3
  have k1 := h1
  have k2 := h2
  have lt1 : ∀ x ∈ p1, x.block < W.heap.size := by obtain ⟨m, hm⟩ := k1; exact DataW.trod_lt m _ _ _ hm
  have lt2 : ∀ x ∈ p2, x.block < W.heap.size := by obtain ⟨m, hm⟩ := k2; exact DataW.trod_lt m _ _ _ hm
  obtain ⟨b0, b1, b2, b3, y0, y1, y2, y3, m, rfl, _, _, hy0, hy1, hy2, hy3⟩ := Joins.open_agg4 Try.underlying45 (by kernel_rfl) (by kernel_rfl) (hval 2 45 v2 rfl rfl) h2
  obtain ⟨n0, e0, _, x0⟩ := DataW.trod_int Try.underlying5 hy0
  obtain ⟨n1, e1, _, x1⟩ := DataW.trod_int Try.underlying5 hy1
  obtain ⟨n2, e2, _, x2⟩ := DataW.trod_int Try.underlying5 hy2
  obtain ⟨n3, e3, _, x3⟩ := DataW.trod_int Try.underlying26 hy3
  injection e0 with e0
  injection e1 with e1
  injection e2 with e2
  injection e3 with e3
  subst e0 e1 e2 e3
  have hb0 := bounds_u8 x0
  have hb1 := bounds_u8 x1
  have hb2 := bounds_u8 x2
  have hb3 := bounds_u64 x3
  obtain ⟨fuel, hf⟩ := h1
  obtain ⟨A, n, c, st, hcs, hn, hst⟩ := steps_of hf
  simp [Value.cells] at hcs
  obtain ⟨rfl, rfl, rfl⟩ := hcs
  have hb := bounds_u8 w0
  have hm := bounds_u64 w3
  obtain ⟨sz, rfl⟩ : ∃ sz : Nat, a0 = sz := ⟨a0.toNat, by omega⟩
  obtain ⟨mk, rfl⟩ : ∃ mk : Nat, a3 = mk := ⟨a3.toNat, by omega⟩
  obtain ⟨zk, rfl⟩ : ∃ z : Nat, n0 = z := ⟨n0.toNat, by omega⟩
  obtain ⟨zl, rfl⟩ : ∃ z : Nat, n1 = z := ⟨n1.toNat, by omega⟩
  obtain ⟨zm, rfl⟩ : ∃ z : Nat, n2 = z := ⟨n2.toNat, by omega⟩
  obtain ⟨zo, rfl⟩ : ∃ z : Nat, n3 = z := ⟨n3.toNat, by omega⟩
  clear hA0 hval0
  refine (snaps_t sz _ _ _ st ⟨zk, zl, zm, zo, by omega, by omega, by omega, by omega⟩ mk W (by omega) hst (by unfold maxLen at hn; omega) (by omega)).mono fun e W' ⟨he, hx⟩ => ?_
  subst he
  have bel : Below W.heap.size W W' := hx.below (Nat.le_refl _) (fun k h => h.elim)
  exact ⟨_, rfl, _, _, _, [], _, [], hW', trodAll_mk1 (shut_bool Try.underlying4 _), (trodAll_cons_mk (shut_int Try.underlying5 w0) (trodAll_cons_mk (Below.trod laidOutR (by kernel_rfl) (of_decide_eq_true (by kernel_rfl)) k1 bel lt1) (trodAll_cons_mk (Below.trod laidOutR (by kernel_rfl) (of_decide_eq_true (by kernel_rfl)) k2 bel lt2) (trodAll_cons_mk (shut_int Try.underlying26 w3) trodAll_mk0)))), rfl, bel.frame _, fun h => by cases h⟩

/-- For any size, steps, step and losses JournalSnaps returns true; no condition but those of the form. -/
theorem snapsProved : Rows.JournalSnapsSaid :=
  OpenClaim.holds_of_wide 8 Try.f8 rfl rfl rfl rfl rfl rfl rfl ⟨rfl, rfl, rfl, rfl, rfl⟩ rfl rfl rfl rfl rfl (by kernel_rfl) Try.func8 (by kernel_rfl)
    (of_decide_eq_true (by kernel_rfl)) (by unfold Func.isWrapper; first | (rw [if_pos (by decide +kernel)]; kernel_rfl) | (rw [if_neg (by decide +kernel)]; exact ⟨rfl, rfl⟩))
    (fun os started H enc _ => liftedSnaps os started H enc)
#print axioms snapsProved
end Go.Proofs.Ytmhhfhmpdpgmbaa
