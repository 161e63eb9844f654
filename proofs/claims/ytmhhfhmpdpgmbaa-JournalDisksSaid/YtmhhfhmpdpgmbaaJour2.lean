/- Records, Checkpoint. -/
import Derived.Test.YtmhhfhmpdpgmbaaJour
namespace Go.Proofs.Ytmhhfhmpdpgmbaa
open Go.RowKit

def RecordsPost (w : World) (recs : List (List UInt8)) (e : Ending) (w' : World) : Prop := ∃ v, e = .returned v ∧ Recs (fun b => w.heap.size ≤ b) w' w.heap.size v recs ∧ Ext NoS w w'

set_option maxRecDepth 100000 in
set_option maxHeartbeats 4000000 in
theorem records_t (B : Nat) (w : World) (j d : Nat) (vs vp vr : Value) (S : List Sec) (P : List (Int × Sec)) (ar ep li en : Nat) (recs : List (List UInt8)) (h : JAt B w j d vs vp vr S P ar ep li en recs) (hrl : recs.length ≤ 1000000) (hbl : ∀ r ∈ recs, r.length ≤ 1000000) :
    Calls Try.prog 26 #[.pointer (some ⟨j, 0, none⟩)] w (RecordsPost w recs) := by
  have c0 := h.jb.cell 0
  have c5 := h.jb.cell 5
  simp at c0 c5
  obtain ⟨vals, hvo, hvl, hvb⟩ := h.recs
  obtain ⟨Ar, cr, rfl, hcr, _⟩ := own_slice hvo
  have hcells : ∀ k (hk : k < recs.length), ∃ g, Ar = some ⟨g, 0, none⟩ ∧ w.cell? ⟨g, k, none⟩ = some (vals[k]'(by omega)) := fun k hk => by
    rcases hvo.2 with ⟨hv, h0⟩ | ⟨g, cap, cur, hv, _⟩
    · omega
    · have hA : Ar = some ⟨g, 0, none⟩ := by injection hv
      subst hA
      have h1 := own_range hvo rfl k (vals[k]'(by omega)) (by rw [List.getElem?_eq_getElem])
      rw [Nat.zero_add] at h1
      exact ⟨g, rfl, h1⟩
  have HVO := hide hvo
  have HVB := hide hvb
  have HC := hide hcells
  clear hvo hvb hcells h
  go_enter Try.func26, Try.ntmps26
  go_wp2_with (go_at_call 32; refine (none_no j d _ c0).mono ?_; rintro e w' ⟨rfl, rfl⟩)
  go_loopw [3, 13] (fun v3 v13 wr => ∃ k : Nat, k ≤ recs.length ∧ v13 = .int .i64 k ∧ Recs (fun b => w.heap.size ≤ b) wr w.heap.size v3 (recs.take k) ∧ Ext NoS w wr) (fun _ i _ => recs.length - (intOf i).toNat)
  case atStart => exact ⟨0, Nat.zero_le _, rfl, Recs.nil _ _ _, Ext.refl _ _⟩
  case round =>
    obtain ⟨k, hk, rfl, hrec, hE⟩ := hrel
    by_cases hlt : k < recs.length
    · obtain ⟨g, rfl, hck⟩ := HC.out k hlt
      have hck' := hE.cell hck (fun h => h)
      have hvk := HVB.out k hlt (by omega)
      have hbk := hvk.extB hE (fun _ _ _ h => h)
      obtain ⟨vk, hvk0⟩ : ∃ x, x = vals[k] := ⟨_, rfl⟩
      rw [← hvk0] at hck' hbk
      obtain ⟨Ak, ck, hvk1, hck1, hrk⟩ := hbk
      have hbk : Bytes (fun b => True ∧ ByteBlk wr b) wr (.slice Ak recs[k].length ck) recs[k] := ⟨Ak, ck, rfl, hck1, hrk⟩
      rw [hvk1] at hck'
      obtain ⟨rk, hrk0⟩ : ∃ x, x = recs[k] := ⟨_, rfl⟩
      rw [← hrk0] at hck' hbk
      have hrl2 : rk.length ≤ 1000000 := by rw [hrk0]; exact hbl _ (List.getElem_mem _)
      have hcl : ∀ W2, Ext NoS wr W2 → Calls Try.prog 36 #[.slice Ak rk.length ck] W2 (Fresh W2 5 1 rk.length (rk.map bv)) := fun W2 h2 => cloneB_t _ W2 _ rk (hbk.ext h2 (fun _ _ _ h => h)) hrl2
      obtain ⟨vals2, hvo2, hvl2, hvb2⟩ := hrec
      have HVO2 := hide hvo2
      have HVB2 := hide hvb2
      have HCL := hide hcl
      have HE := hide hE
      have HRK := hide hrk0
      have hlk : (recs.take k).length = k := by rw [List.length_take]; omega
      rw [hlk] at hvo2 hvl2
      have HVO3 := hide hvo2
      clear hvk0 hvk1 hvk hbk hrk hcl hvo2 hvb2 hE hrk0 HVO2 hlk
      go_wp2_with (first
        | (go_at_call 36; refine (HCL.out _ (Ext.refl NoS wr)).mono ?_; rintro e' w5 ⟨v5, rfl, ho5, hE5⟩; obtain ⟨A5, c5, hv5, _, _⟩ := own_slice ho5; subst hv5; have HO5 := hide ho5; clear ho5; have HE5 := hide hE5; clear hE5)
        | (at_builtin; refine Hid.out ?_))
      refine hide ?_
      refine wpList_append_any rfl _ _ 67 rfl w.heap.size 46 _ 1 24 Try.underlying67 infoBs rfl (by decide) _ k vals2 rfl (own_ext HVO3.out (HE5.out.alloc _) (fun _ _ h => h)) (some ⟨w5.heap.size, 0, none⟩) 1 1 [.slice A5 rk.length c5] rfl rfl (fun _ => ⟨_, _, rfl, (Blk.new w5 _ _).all⟩) (by simp [Value.oneCell']) (by unfold maxLen; omega) (by omega) (by have := HE.out.size; have := HE5.out.size; simp; omega) ?_
      intro v' w6 ho6 hg6 _
      have hg6' := same_own (own_ext HVO3.out (HE5.out.alloc (.cells #[.slice A5 rk.length c5] 46)) (fun _ _ h => h)) hg6
      have hx6 : Ext (fun x => u3.ownBlock = some x) wr w6 := (HE5.out.alloc (.cells #[.slice A5 rk.length c5] 46)).of_no.grown hg6' (fun g hg => .inl hg)
      have hne : ∀ x, ByteBlk wr x → ¬ (u3.ownBlock = some x) := fun x ⟨cs, hx⟩ => own_neB HVO3.out hx (by decide)
      have hne5 : ∀ x, ByteBlk w5 x → ¬ (u3.ownBlock = some x) := fun x ⟨cs, hx⟩ => own_neB (own_ext HVO3.out HE5.out (fun _ _ h => h)) hx (by decide)
      have hx56 : Ext (fun x => u3.ownBlock = some x) w5 w6 := ((Ext.refl NoS w5).alloc (.cells #[.slice A5 rk.length c5] 46)).of_no.grown hg6' (fun g hg => .inl hg)
      have hv : Bytes (fun x => w.heap.size ≤ x ∧ ByteBlk w6 x) w6 (.slice A5 rk.length c5) rk :=
        ((Bytes.of_ownB HO5.out).ext hx56 (fun x hx _ => hne5 x hx.2)).mono (fun x _ hx => ⟨Nat.le_trans HE.out.size hx.1, hx.2.ext hx56 (hne5 x hx.2)⟩)
      have hlk : (recs.take k).length = k := by rw [List.length_take]; omega
      have hr6 : Recs (fun b => w.heap.size ≤ b) w6 w.heap.size v' (recs.take (k + 1)) := by
        rw [List.take_succ_eq_append_getElem hlt, ← HRK.out]
        exact Recs.snoc (K := fun b => w.heap.size ≤ b) (v := .slice A5 rk.length c5) vals2 (by rw [hlk]; exact hvl2) HVB2.out hv hx6 (fun b _ hb => hne b hb) (fun b h => h) (by rw [hlk]; exact ho6)
      have hE6 : Ext NoS w w6 := HE.out.trans hx6 (fun i hi e => by have := own_base HVO3.out e; omega)
      have HR6 := hide hr6
      have HE6 := hide hE6
      clear hr6 hE6 hv hx56 hx6 hg6' hg6 ho6 hne hne5 hlk
      go_wp2
      go_roundw
      case rel => exact ⟨k + 1, hlt, by go_num, HR6.out, HE6.out⟩
      case measure => simp [intOf]; omega
    · have hke : recs.take k = recs := List.take_of_length_le (by omega)
      rw [hke] at hrec
      have HREC := hide hrec
      have HE := hide hE
      clear hrec hE hke
      go_wp2
      go_ret
      exact ⟨_, rfl, HREC.out, HE.out⟩

/-- What the journal returns where it was not opened. -/
theorem records_nil_t (w : World) : Calls Try.prog 26 #[.pointer none] w fun e w' => e = .returned (.slice none 0 0) ∧ w = w' := by
  go_enter Try.func26, Try.ntmps26
  go_wp2_with (go_at_call 32; refine (none_nil _).mono ?_; rintro e w' ⟨rfl, rfl⟩)
  go_ret
  exact ⟨rfl, rfl⟩
end Go.Proofs.Ytmhhfhmpdpgmbaa
