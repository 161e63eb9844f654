/- The steps of an argument, out of its reading. -/
import Derived.Test.YtmhhfhmpdpgmbaaStep
import Derived.ProofKit
import Derived.OpenShut
import Derived.ChangeOld
import Derived.Below
import Derived.Deep.Slices
import Derived.Deep.Fields
namespace Go.Proofs.Ytmhhfhmpdpgmbaa
open Go.ChangeShapes Go.WideShapes Go.ChangeAt Go.RowKit Go.Deep

theorem knobOwn : ownKnob Try.prog.godebug = none := by kernel_rfl
theorem laidOutR : laidOutB Try.prog = true := by kernel_rfl

section
variable {H : Type} {enc : TypeId × Value → H} {w : World} {base : Nat} {spare : Nat → Bool} {held : Bool}
theorem four_of {α : Type} (l : List α) (h : l.length = 4) : ∃ a b c d, l = [a, b, c, d] := by
  match l, h with
  | [a, b, c, d], _ => exact ⟨a, b, c, d, rfl⟩
set_option maxRecDepth 100000 in
/-- The steps of an argument, out of its reading. -/
theorem steps_of {fuel : Nat} {cs : List Value} {x : DataW H × List MemPlace} (h : DataW.trod enc Try.prog w base spare held fuel 40 cs = some x) :
    ∃ A n c st, cs = [.slice A n c] ∧ n ≤ maxLen ∧ StepsAt w A n st := by
  rcases open_slice Try.underlying40 h with ⟨rfl, _⟩ | ⟨a, len, cap, m, n, D, Pl, rfl, hb, hl, hm, hmm, _, hi⟩
  · exact ⟨none, 0, 0, fun _ => ⟨0, 0, 0, 0, by decide, by decide, by decide, by decide⟩, rfl, by decide, fun i hi => absurd hi (by omega)⟩
  · have hC : Try.prog.cellsOf 45 = 4 := by kernel_rfl
    have hlm : len ≤ m := by rw [hmm]; split <;> omega
    have hsp : 0 < len → a.spot = none := fun h0 => by
      obtain ⟨cs', hc, _⟩ := hi 0 (by omega)
      rw [hC] at hc
      obtain ⟨_, hcl, hat⟩ := World.cells?_some hc
      obtain ⟨c0, c1, c2, c3, rfl⟩ := four_of cs' hcl
      have h0 := hat 0 (by decide)
      simpa [Addr.add] using World.cell?_spot h0
    have hex : ∀ i, i < len → ∃ (s : St) (b o : Nat), a = ⟨b, o, none⟩ ∧ w.cell? ⟨b, o + i * 4, none⟩ = some (.int .u8 s.k) ∧ w.cell? ⟨b, o + i * 4 + 1, none⟩ = some (.int .u8 s.l) ∧ w.cell? ⟨b, o + i * 4 + 2, none⟩ = some (.int .u8 s.m) ∧ w.cell? ⟨b, o + i * 4 + 3, none⟩ = some (.int .u64 s.lo) := by
      intro i hlt
      obtain ⟨cs', hc, ht⟩ := hi i (by omega)
      rw [hC] at hc
      obtain ⟨_, hcl, hat⟩ := World.cells?_some hc
      obtain ⟨xs, n', _, _, _, hxl, hf⟩ := DataW.trod_struct Try.underlying45 ht
      have hu1 : Try.prog.cellsOf 5 = 1 := by kernel_rfl
      have hu8 : Try.prog.cellsOf 26 = 1 := by kernel_rfl
      obtain ⟨c0, c1, c2, c3, rfl⟩ := four_of cs' hcl
      have hxl : xs.length = 4 := hxl
      have f0 := hf 0 _ rfl
      have f1 := hf 1 _ rfl
      have f2 := hf 2 _ rfl
      have f3 := hf 3 _ rfl
      rw [List.getElem?_eq_getElem (by omega)] at f0 f1 f2 f3
      change DataW.trod enc _ w base spare held n' 5 (List.take (Try.prog.cellsOf 5) [c0, c1, c2, c3]) = some _ at f0
      change DataW.trod enc _ w base spare held n' 5 (List.take (Try.prog.cellsOf 5) [c1, c2, c3]) = some _ at f1
      change DataW.trod enc _ w base spare held n' 5 (List.take (Try.prog.cellsOf 5) [c2, c3]) = some _ at f2
      change DataW.trod enc _ w base spare held n' 26 (List.take (Try.prog.cellsOf 26) [c3]) = some _ at f3
      rw [hu1] at f0 f1 f2
      rw [hu8] at f3
      simp only [List.take_succ_cons, List.take_zero] at f0 f1 f2 f3
      obtain ⟨n0, e0, _, w0⟩ := DataW.trod_int Try.underlying5 f0
      obtain ⟨n1, e1, _, w1⟩ := DataW.trod_int Try.underlying5 f1
      obtain ⟨n2, e2, _, w2⟩ := DataW.trod_int Try.underlying5 f2
      obtain ⟨n3, e3, _, w3⟩ := DataW.trod_int Try.underlying26 f3
      injection e0 with e0
      injection e1 with e1
      injection e2 with e2
      injection e3 with e3
      subst e0 e1 e2 e3
      have b0 := bounds_u8 w0
      have b1 := bounds_u8 w1
      have b2 := bounds_u8 w2
      have b3 := bounds_u64 w3
      have hspot := hsp (by omega)
      obtain ⟨b, o, spot⟩ := a
      have hspot : spot = none := hspot
      subst hspot
      have h0 := hat 0 (by decide)
      have h1 := hat 1 (by decide)
      have h2 := hat 2 (by decide)
      have h3 := hat 3 (by decide)
      simp only [Addr.add_mid, List.getElem?_cons_zero, List.getElem?_cons_succ] at h0 h1 h2 h3
      refine ⟨⟨n0.toNat, n1.toNat, n2.toNat, n3.toNat, by omega, by omega, by omega, by omega⟩, b, o, rfl, ?_, ?_, ?_, ?_⟩
      · rw [show ((n0.toNat : Nat) : Int) = n0 by omega]; simpa [Addr.add] using h0
      · rw [show ((n1.toNat : Nat) : Int) = n1 by omega]; simpa [Addr.add, Nat.add_assoc] using h1
      · rw [show ((n2.toNat : Nat) : Int) = n2 by omega]; simpa [Addr.add, Nat.add_assoc] using h2
      · rw [show ((n3.toNat : Nat) : Int) = n3 by omega]; simpa [Addr.add, Nat.add_assoc] using h3
    refine ⟨some a, len, cap, fun i => if h : i < len then (hex i h).choose else ⟨0, 0, 0, 0, by decide, by decide, by decide, by decide⟩, rfl, by omega, fun i hlt => ?_⟩
    obtain ⟨b, o, ha, q⟩ := (hex i hlt).choose_spec
    refine ⟨b, o, by rw [ha], ?_⟩
    simp only [dif_pos hlt]
    exact q
end
end Go.Proofs.Ytmhhfhmpdpgmbaa
