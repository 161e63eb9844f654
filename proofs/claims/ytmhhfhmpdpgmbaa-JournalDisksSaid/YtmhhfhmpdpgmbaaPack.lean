/- Pack. -/
import Derived.Test.YtmhhfhmpdpgmbaaAppS
import Derived.Test.YtmhhfhmpdpgmbaaOpen0
namespace Go.Proofs.Ytmhhfhmpdpgmbaa
open Go.RowKit

/-- A slice of texts that reads as a list; its cells lie in a block of K. -/
def Texts (K : Nat → Prop) (w : World) (v : Value) (l : List ByteArray) : Prop :=
  ∃ A c, v = .slice A l.length c ∧ l.length ≤ c ∧ (l ≠ [] → ∃ b o, A = some ⟨b, o, none⟩ ∧ K b ∧ w.rangeAt b o (l.map Value.string))
theorem Texts.ext {K S : Nat → Prop} {w w' : World} {v : Value} {l : List ByteArray} (h : Texts K w v l) (he : Ext S w w') (hd : ∀ b, K b → b < w.heap.size → ¬ S b) : Texts K w' v l := by
  obtain ⟨A, c, rfl, hc, h⟩ := h
  refine ⟨A, c, rfl, hc, fun hl => ?_⟩
  obtain ⟨b, o, rfl, hK, hr⟩ := h hl
  exact ⟨b, o, rfl, hK, range_ext hr he (hd b hK (range_lt hr (by simpa using hl)))⟩
theorem Texts.of_own {w : World} {B : Nat} {e : TypeId} {v : Value} {l : List ByteArray} (h : w.ownsRow B e 1 v l.length (l.map Value.string)) : Texts (fun b => B ≤ b) w v l := by
  have h2 := h
  obtain ⟨A, c, rfl, hc, _⟩ := own_slice h
  refine ⟨A, c, rfl, hc, fun hl => ?_⟩
  rcases h2.2 with ⟨hv, h0⟩ | ⟨g, cap, cur, hv, hb, _⟩
  · exact absurd (List.length_eq_zero_iff.1 h0) hl
  · have hA : A = some ⟨g, 0, none⟩ := by injection hv
    subst hA
    exact ⟨g, 0, rfl, hb, own_range h2 rfl⟩

def packOne (s : ByteArray) : List UInt8 := UInt8.ofNat (s.size / 256) :: UInt8.ofNat s.size :: s.data.toList
def packB (l : List ByteArray) : List UInt8 := l.flatMap packOne
theorem packOne_length (s : ByteArray) : (packOne s).length = s.size + 2 := by
  unfold packOne
  rw [List.length_cons, List.length_cons, Array.length_toList]
  rfl
theorem packB_snoc (l : List ByteArray) (s : ByteArray) : packB (l ++ [s]) = packB l ++ packOne s := by simp [packB]
theorem packB_len : ∀ (l : List ByteArray), (∀ s ∈ l, s.size ≤ 1000) → (packB l).length ≤ 1002 * l.length
  | [], _ => by simp [packB]
  | s :: l, h => by
    have h1 := packB_len l (fun s hs => h s (List.mem_cons_of_mem _ hs))
    have h2 := h s (List.mem_cons_self ..)
    have h3 := packOne_length s
    have : packB (s :: l) = packOne s ++ packB l := by simp [packB]
    rw [this, List.length_append, List.length_cons]
    omega
/-- What Pack says is wrong. -/
def packErr (l : List ByteArray) : Nat := if 100 < l.length then 5 else if l.any (fun s => decide (1000 < s.size)) = true then 3 else if 4000 < (packB l).length then 3 else 0
def PackPost (l : List ByteArray) (w : World) (e : Ending) (w' : World) : Prop :=
  ∃ v, e = .returned (.tuple #[v, .int .i64 (packErr l : Nat)]) ∧ Ext NoS w w' ∧ (if packErr l = 0 then w'.ownsRow w.heap.size 5 1 v (packB l).length ((packB l).map bv) else v = .slice none 0 0)

set_option maxRecDepth 100000 in
set_option maxHeartbeats 4000000 in
theorem pack_t (K : Nat → Prop) (l : List ByteArray) (v : Value) (w : World) (h : Texts K w v l) : Calls Try.prog 22 #[v] w (PackPost l w) := by
  obtain ⟨A, c, rfl, hc, hr⟩ := h
  have HR := hide hr
  clear hr
  go_enter Try.func22, Try.ntmps22
  by_cases h1 : 100 < l.length
  · have he : packErr l = 5 := by unfold packErr; rw [if_pos h1]
    have HE := hide he
    clear he
    go_wp2
    go_ret2
    exact ⟨.slice none 0 0, by rw [HE.out]; rfl, Ext.refl _ _, by rw [if_neg (by rw [HE.out]; decide)]⟩
  go_wp2
  go_loopw [4, 12] (fun v4 v12 wr => ∃ k : Nat, k ≤ l.length ∧ v12 = .int .i64 k ∧ (∀ s ∈ l.take k, s.size ≤ 1000) ∧ wr.ownsRow w.heap.size 5 1 v4 (packB (l.take k)).length ((packB (l.take k)).map bv) ∧ Ext NoS w wr) (fun _ i _ => l.length - (intOf i).toNat)
  case atStart => exact ⟨0, Nat.zero_le _, rfl, by simp, World.ownsRow_nil _ _ _ _, Ext.refl _ _⟩
  case round =>
    obtain ⟨k, hk, rfl, hs, ho, hE⟩ := hrel
    have HO := hide ho
    have HE := hide hE
    have HS := hide hs
    clear ho hE hs
    by_cases hlt : k < l.length
    · obtain ⟨b, o, rfl, _, hrg⟩ := HR.out (by intro h; rw [h] at hlt; simp at hlt)
      have hck : wr.cell? ⟨b, o + k, none⟩ = some (.string l[k]) := HE.out.cell (hrg k _ (by simp [hlt])) (fun h => h)
      obtain ⟨s, hsd⟩ : ∃ s, s = l[k] := ⟨_, rfl⟩
      rw [← hsd] at hck
      have HSD := hide hsd
      clear hsd hrg
      by_cases hbig : 1000 < s.size
      · have he : packErr l = 3 := by
          unfold packErr
          rw [if_neg h1, if_pos]
          rw [List.any_eq_true]
          exact ⟨s, by rw [HSD.out]; exact List.getElem_mem _, by simpa using hbig⟩
        have HERR := hide he
        clear he
        go_wp2
        go_ret2
        exact ⟨.slice none 0 0, by rw [HERR.out]; rfl, HE.out, by rw [if_neg (by rw [HERR.out]; decide)]⟩
      · have hlen := packB_len (l.take k) HS.out
        rw [List.length_take] at hlen
        have hlen2 : (packB (l.take k)).length ≤ 100200 := by omega
        clear hlen
        go_wp2_with (at_builtin; refine Hid.out ?_)
        refine hide ?_
        have hb1 : Value.int .u8 ((s.size : Int) / 256) = bv (UInt8.ofNat (s.size / 256)) := by
          unfold bv
          congr 1
          rw [show (UInt8.ofNat (s.size / 256)).toNat = s.size / 256 % 256 by simp]
          omega
        have hb2 : Value.int .u8 ((s.size : Int) % 256) = bv (UInt8.ofNat s.size) := by
          unfold bv
          congr 1
        rw [hb1, hb2]
        refine wpList_append_any rfl _ _ 46 rfl w.heap.size 5 _ 1 1 Try.underlying46 infoB rfl (by decide) _ _ _ rfl (own_ext HO.out ((Ext.refl NoS wr).alloc _) (fun _ _ h => h)) (some ⟨wr.heap.size, 0, none⟩) 2 2 [bv (UInt8.ofNat (s.size / 256)), bv (UInt8.ofNat s.size)] rfl rfl (fun _ => ⟨_, _, rfl, (Blk.new wr _ _).all⟩) (by simp [Value.oneCell', bv]) (by unfold maxLen; omega) (by omega) (by have := HE.out.size; simp; omega) ?_
        intro v5 w5 ho5 hg5 hor5
        have hg5' := same_own (own_ext HO.out ((Ext.refl NoS wr).alloc (.cells #[bv (UInt8.ofNat (s.size / 256)), bv (UInt8.ofNat s.size)] 5)) (fun _ _ h => h)) hg5
        have hx5 : Ext (fun x => u4.ownBlock = some x) wr w5 := ((Ext.refl NoS wr).alloc (.cells #[bv (UInt8.ofNat (s.size / 256)), bv (UInt8.ofNat s.size)] 5)).of_no.grown hg5' (fun g hg => .inl hg)
        have hE5 : Ext NoS w w5 := HE.out.trans hx5 (fun i hi e => by have := own_base HO.out e; omega)
        have HO5 := hide ho5
        have HE5 := hide hE5
        clear ho5 hE5 hx5 hg5 hg5' hor5 hb1 hb2
        go_wp2_with (at_builtin; refine Hid.out ?_)
        refine hide ?_
        refine wpList_append_str rfl _ _ 46 9 rfl w.heap.size 5 _ Try.underlying46 Try.underlying9 infoB rfl _ _ _ rfl HO5.out s rfl (by unfold maxLen; omega) (by omega) HE5.out.size ?_
        intro v6 w6 ho6 hg6 _
        have hg6' := same_own HO5.out hg6
        have hE6 : Ext NoS w w6 := HE5.out.trans ((Ext.refl (fun x => v5.ownBlock = some x) w5).grown hg6' (fun g hg => .inl hg)) (fun i hi e => by have := own_base HO5.out e; omega)
        have hl1 : packB (l.take (k + 1)) = packB (l.take k) ++ packOne s := by rw [List.take_succ_eq_append_getElem hlt, packB_snoc, ← HSD.out]
        have hl2 : (packB (l.take k)).length + 2 + s.size = (packB (l.take (k + 1))).length := by rw [hl1, List.length_append, packOne_length]; omega
        have hl3 : List.map bv (packB (l.take k)) ++ [bv (UInt8.ofNat (s.size / 256)), bv (UInt8.ofNat s.size)] ++ byteCells s = (packB (l.take (k + 1))).map bv := by
          rw [hl1, List.map_append, List.append_assoc, byteCells_bv]
          rfl
        have hs2 : ∀ x ∈ l.take (k + 1), x.size ≤ 1000 := by
          intro x hx
          rw [List.take_succ_eq_append_getElem hlt, ← HSD.out] at hx
          rcases List.mem_append.1 hx with hx | hx
          · exact HS.out x hx
          · rw [List.mem_singleton.1 hx]; omega
        rw [hl2, hl3] at ho6
        have HO6 := hide ho6
        have HE6 := hide hE6
        have HS2 := hide hs2
        clear ho6 hE6 hg6 hg6' hl1 hl2 hl3 hs2
        go_wp2
        go_roundw
        case rel => exact ⟨k + 1, hlt, by go_num, HS2.out, HO6.out, HE6.out⟩
        case measure => simp [intOf]; omega
    · have hkk : k = l.length := by omega
      subst hkk
      have ht : l.take l.length = l := List.take_of_length_le (Nat.le_refl _)
      rw [ht] at HO HS
      clear ht
      have hany : l.any (fun s => decide (1000 < s.size)) = false := by
        rw [List.any_eq_false]
        intro s hs
        have := HS.out s hs
        simp; omega
      by_cases h4 : 4000 < (packB l).length
      · have he : packErr l = 3 := by unfold packErr; rw [if_neg h1, hany, if_neg (by decide), if_pos h4]
        have HERR := hide he
        obtain ⟨A4, c4, hv4, _, _⟩ := own_slice HO.out
        subst hv4
        clear he hany
        go_wp2
        go_ret2
        exact ⟨.slice none 0 0, by rw [HERR.out]; rfl, HE.out, by rw [if_neg (by rw [HERR.out]; decide)]⟩
      · have he : packErr l = 0 := by unfold packErr; rw [if_neg h1, hany, if_neg (by decide), if_neg h4]
        have HERR := hide he
        obtain ⟨A4, c4, hv4, _, _⟩ := own_slice HO.out
        subst hv4
        clear he hany
        go_wp2
        go_ret2
        exact ⟨_, by rw [HERR.out]; rfl, HE.out, by rw [if_pos HERR.out]; exact HO.out⟩
end Go.Proofs.Ytmhhfhmpdpgmbaa
