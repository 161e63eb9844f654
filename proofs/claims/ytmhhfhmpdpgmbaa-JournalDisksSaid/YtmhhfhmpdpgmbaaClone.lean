/- slices.Clone of bytes and of sectors. -/
import Derived.Test.YtmhhfhmpdpgmbaaSector
import Derived.Test.YtmhhfhmpdpgmbaaApp
import Derived.WalkSpells
namespace Go.Proofs.Ytmhhfhmpdpgmbaa
open Go.RowKit

theorem infoB : (Try.prog.info? 5).map (fun i => (i.zero, i.size, i.bytes)) = some (some (.int .u8 0), 1, 1) := by kernel_rfl

/-- A fresh row of e's elements with the cells xs; nothing else has turned. -/
def Fresh (w : World) (e : TypeId) (size n : Nat) (xs : List Value) (en : Ending) (w' : World) : Prop :=
  ∃ v', en = .returned v' ∧ w'.ownsRow w.heap.size e size v' n xs ∧ Ext NoS w w'

theorem bvs_one (l : List UInt8) : ∀ v ∈ l.map bv, v.oneCell' = true := sv_one l

set_option maxRecDepth 100000 in
set_option maxHeartbeats 1000000 in
theorem cloneB_t (K : Nat → Prop) (w : World) (v : Value) (l : List UInt8) (h : Bytes K w v l) (hl : l.length ≤ 1000000) :
    Calls Try.prog 36 #[v] w (Fresh w 5 1 l.length (l.map bv)) := by
  obtain ⟨A, c, rfl, hc, hr⟩ := h
  have hnil := fun (w : World) => Lib.run_eql_slice_nil (P := Try.prog) w 46 5 A l.length c 0 0 Try.underlying46
  cases A with
  | none =>
    have hl0 : l = [] := by
      cases l with
      | nil => rfl
      | cons x r => obtain ⟨b, o, h, _⟩ := hr (by simp); cases h
    subst hl0
    have hnil := fun (w : World) => Lib.run_eql_slice_nil (P := Try.prog) w 46 5 none 0 c 0 0 Try.underlying46
    go_enter Try.func36, Try.ntmps36
    go_wp2
    go_ret
    exact ⟨_, rfl, World.ownsRow_nil _ _ _ _, Ext.refl _ _⟩
  | some ad =>
    have HR := hide hr; clear hr
    go_enter Try.func36, Try.ntmps36
    go_wp2_with ((at_builtin; refine Hid.out ?_))
    refine hide ?_
    have hown := World.ownsRow_lit (base := w.heap.size) (e := 5) (size := 1) w #[] 0 (Nat.le_refl _) (Nat.zero_le _) rfl
    refine wpList_append_any rfl _ _ 46 rfl w.heap.size 5 _ 1 1 Try.underlying46 infoB rfl (by decide) (.slice (some ⟨w.heap.size, 0, none⟩) 0 0) 0 _ rfl hown (some ad) l.length c (l.map bv) rfl (by simp) (fun hn => ?_) (bvs_one l) (by unfold maxLen; omega) (by omega) (by simp) ?_
    · obtain ⟨b, o, h, _, hr⟩ := HR.out (by simpa using hn)
      exact ⟨b, o, h, range_ext hr ((Ext.refl NoS _).alloc _) (fun h => h)⟩
    · intro v' w' ho hg _
      have hE : Ext NoS w w' := ((Ext.refl NoS w).alloc _).grown hg (fun g hg => .inr (Nat.le_of_eq (by simpa [Value.ownBlock] using hg)))
      simp only [Nat.zero_add, List.nil_append] at ho
      clear hg
      have HO := hide ho; clear ho
      go_wp2
      go_ret
      exact ⟨_, rfl, HO.out, hE⟩

set_option maxRecDepth 100000 in
set_option maxHeartbeats 1000000 in
theorem cloneS_t (B : Nat) (w : World) (v : Value) (S : List Sec) (h : w.ownsRow B 53 32 v S.length (S.flatMap sv)) (hl : S.length ≤ 1000000) :
    Calls Try.prog 39 #[v] w (Fresh w 53 32 S.length (S.flatMap sv)) := by
  obtain ⟨A, c, rfl, hc, _⟩ := own_slice h
  have hnil := fun (w : World) => Lib.run_eql_slice_nil (P := Try.prog) w 22 53 A S.length c 0 0 Try.underlying22
  have hr : S.flatMap sv ≠ [] → ∃ b o, A = some ⟨b, o, none⟩ ∧ w.rangeAt b o (S.flatMap sv) := fun hn => by
    rcases h.2 with ⟨_, h0⟩ | ⟨g, cap, cur, hv, _⟩
    · have := h.1
      rw [h0] at this
      exact absurd (List.eq_nil_of_length_eq_zero (by omega)) hn
    · have hA : A = some ⟨g, 0, none⟩ := by injection hv
      subst hA
      exact ⟨g, 0, rfl, own_range h rfl⟩
  have hlen := h.1
  have HL := hide hlen; clear hlen
  have H1 : ∀ u ∈ S.flatMap sv, u.oneCell' = true := fun u hu => by
    obtain ⟨s, _, hs⟩ := List.mem_flatMap.1 hu
    exact sv_one s u hs
  cases A with
  | none =>
    have hl0 : S.length = 0 := by
      rcases h.2 with ⟨_, h0⟩ | ⟨g, cap, cur, hv, _⟩
      · exact h0
      · cases hv
    have hS : S = [] := List.eq_nil_of_length_eq_zero hl0
    subst hS
    clear h HL
    have hnil := fun (w : World) => Lib.run_eql_slice_nil (P := Try.prog) w 22 53 none 0 c 0 0 Try.underlying22
    go_enter Try.func39, Try.ntmps39
    go_wp2
    go_ret
    exact ⟨_, rfl, World.ownsRow_nil _ _ _ _, Ext.refl _ _⟩
  | some ad =>
    have HR := hide hr; clear hr
    clear h
    go_enter Try.func39, Try.ntmps39
    go_wp2_with ((at_builtin; refine Hid.out ?_))
    refine hide ?_
    have hown := World.ownsRow_lit (base := w.heap.size) (e := 53) (size := 32) w #[] 0 (Nat.le_refl _) (Nat.zero_le _) rfl
    refine wpList_append_any rfl _ _ 22 rfl w.heap.size 53 _ 32 32 Try.underlying22 infoSec rfl (by decide) (.slice (some ⟨w.heap.size, 0, none⟩) 0 0) 0 _ rfl hown (some ad) S.length c (S.flatMap sv) rfl HL.out (fun hn => ?_) H1 (by unfold maxLen; omega) (by omega) (by simp) ?_
    · obtain ⟨b, o, h, hr⟩ := HR.out hn
      exact ⟨b, o, h, range_ext hr ((Ext.refl NoS _).alloc _) (fun h => h)⟩
    · intro v' w' ho hg _
      have hE : Ext NoS w w' := ((Ext.refl NoS w).alloc _).grown hg (fun g hg => .inr (Nat.le_of_eq (by simpa [Value.ownBlock] using hg)))
      simp only [Nat.zero_add, List.nil_append] at ho
      clear hg
      have HO := hide ho; clear ho
      go_wp2
      go_ret
      exact ⟨_, rfl, HO.out, hE⟩
end Go.Proofs.Ytmhhfhmpdpgmbaa
