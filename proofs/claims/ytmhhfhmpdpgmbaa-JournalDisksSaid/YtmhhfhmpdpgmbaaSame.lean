/- SameBytes, SameTexts. -/
import Derived.Test.YtmhhfhmpdpgmbaaPack
namespace Go.Proofs.Ytmhhfhmpdpgmbaa
open Go.RowKit

theorem text_inj {x y : ByteArray} (h : x.toList = y.toList) : x = y := by
  rw [ByteArray.toList_eq, ByteArray.toList_eq] at h
  exact ByteArray.ext (Array.toList_inj.1 h)
theorem take_eq_succ {α : Type} {l m : List α} (k : Nat) (h1 : k < l.length) (h2 : k < m.length) (h : l.take k = m.take k) (he : l[k] = m[k]) : l.take (k + 1) = m.take (k + 1) := by
  rw [List.take_succ_eq_append_getElem h1, List.take_succ_eq_append_getElem h2, h, he]

set_option maxRecDepth 100000 in
set_option maxHeartbeats 4000000 in
theorem sameBytes_t (K1 K2 : Nat → Prop) (l m : List UInt8) (v1 v2 : Value) (w : World) (h1 : Bytes K1 w v1 l) (h2 : Bytes K2 w v2 m) (hl : l.length ≤ 1000000) :
    Calls Try.prog 25 #[v1, v2] w fun e w' => e = .returned (.bool (decide (l = m))) ∧ Ext NoS w w' := by
  obtain ⟨A, c, rfl, hc, hr⟩ := h1
  obtain ⟨A2, c2, rfl, hc2, hr2⟩ := h2
  have HR := hide hr
  have HR2 := hide hr2
  clear hr hr2
  by_cases hlen : l.length = m.length
  · obtain ⟨n, hn⟩ : ∃ n, n = l.length := ⟨_, rfl⟩
    have hm : m.length = n := by omega
    rw [hm] at hc2 ⊢
    rw [← hn] at hc ⊢
    have hnb : n ≤ 1000000 := by omega
    have HN := hide hn
    have HM := hide hm
    clear hlen hn hm
    go_enter Try.func25, Try.ntmps25
    go_wp2
    go_loopw [5] (fun v5 wr => ∃ k : Nat, k ≤ n ∧ v5 = .int .i64 k ∧ l.take k = m.take k ∧ Ext NoS w wr) (fun i _ => n - (intOf i).toNat)
    case atStart => exact ⟨0, Nat.zero_le _, rfl, rfl, Ext.refl _ _⟩
    case round =>
      obtain ⟨k, hk, rfl, ht, hE⟩ := hrel
      have HT := hide ht
      have HE := hide hE
      by_cases hlt : k < n
      · have hlt1 : k < l.length := by have := HN.out; omega
        have hlt2 : k < m.length := by have := HM.out; omega
        obtain ⟨b, o, rfl, _, hrg⟩ := HR.out (by intro h; rw [h] at hlt1; simp at hlt1)
        obtain ⟨b2, o2, rfl, _, hrg2⟩ := HR2.out (by intro h; rw [h] at hlt2; simp at hlt2)
        have q1 : wr.cell? ⟨b, o + k, none⟩ = some (.int .u8 (l[k]).toNat) := hE.cell (hrg k _ (by simp [hlt1, bv])) (fun h => h)
        have q2 : wr.cell? ⟨b2, o2 + k, none⟩ = some (.int .u8 (m[k]).toNat) := hE.cell (hrg2 k _ (by simp [hlt2, bv])) (fun h => h)
        obtain ⟨x, hx⟩ : ∃ x, x = l[k]'hlt1 := ⟨_, rfl⟩
        obtain ⟨y, hy⟩ : ∃ y, y = m[k]'hlt2 := ⟨_, rfl⟩
        rw [show l[k] = x from hx.symm] at q1
        rw [show m[k] = y from hy.symm] at q2
        have HL1 := hide hlt1
        have HL2 := hide hlt2
        have HX := hide hx
        have HY := hide hy
        have hb1 : (k : Int) < (n : Int) := by omega
        clear hx hy hrg hrg2 hE ht
        go_upto_region 6 with fail
        go_cut [25] (fun v25 w' => v25 = .bool (decide (x ≠ y)) ∧ Ext NoS wr w')
        case first =>
          go_region
          all_goals
            go_wp2_with fail
            go_meet
            refine ⟨congrArg Value.bool ?_, (Ext.refl _ _).drew⟩
            rw [Bool.eq_iff_iff]
            simp only [bne_iff_ne, decide_eq_true_eq, ne_eq]
            exact not_congr ⟨fun h => UInt8.toNat.inj (by omega), fun h => by rw [h]⟩
        case rest =>
          obtain ⟨rfl, hE2⟩ := hcut
          have HE2 := hide (HE.out.trans' hE2)
          clear hE2
          by_cases hxy : x = y
          · have hd : decide (x ≠ y) = false := by simp [hxy]
            rw [hd]
            have hl2 : l.take (k + 1) = m.take (k + 1) := take_eq_succ k HL1.out HL2.out HT.out (by rw [← HX.out, ← HY.out]; exact hxy)
            have HT2 := hide hl2
            clear hd hl2 hxy
            go_wp2
            go_roundw
            case rel => exact ⟨k + 1, hlt, by go_num, HT2.out, HE2.out⟩
            case measure => simp [intOf]; omega
          · have hd : decide (x ≠ y) = true := by simp [hxy]
            rw [hd]
            have hf : decide (l = m) = false := decide_eq_false (fun h => hxy (by rw [HX.out, HY.out]; simp [h]))
            have HF := hide hf
            clear hd hf hxy
            go_wp2
            go_ret
            exact ⟨by rw [HF.out]; rfl, HE2.out⟩
      · have hkn : k = n := by omega
        subst hkn
        have ht2 : l = m := by
          have := HT.out
          rwa [List.take_of_length_le (by have := HN.out; omega), List.take_of_length_le (by have := HM.out; omega)] at this
        have HT2 := hide (decide_eq_true ht2)
        clear ht2 ht
        go_wp2
        go_ret
        exact ⟨by rw [HT2.out]; rfl, HE.out⟩
  · have hf : decide (l = m) = false := decide_eq_false (fun h => hlen (by rw [h]))
    have HF := hide hf
    clear hf
    obtain ⟨n, hn⟩ : ∃ n, n = l.length := ⟨_, rfl⟩
    obtain ⟨n2, hn2⟩ : ∃ n, n = m.length := ⟨_, rfl⟩
    rw [← hn, ← hn2] at hlen
    rw [← hn, ← hn2]
    clear hn hn2 hc hc2 HR HR2
    have hne : ¬ (n : Int) = (n2 : Int) := by omega
    go_enter Try.func25, Try.ntmps25
    go_wp2
    go_ret
    exact ⟨by rw [HF.out]; rfl, Ext.refl _ _⟩

set_option maxRecDepth 100000 in
set_option maxHeartbeats 4000000 in
theorem sameTexts_t (K1 K2 : Nat → Prop) (l m : List ByteArray) (v1 v2 : Value) (w : World) (h1 : Texts K1 w v1 l) (h2 : Texts K2 w v2 m) (hl : l.length ≤ 1000000) :
    Calls Try.prog 24 #[v1, v2] w fun e w' => e = .returned (.bool (decide (l = m))) ∧ Ext NoS w w' := by
  obtain ⟨A, c, rfl, hc, hr⟩ := h1
  obtain ⟨A2, c2, rfl, hc2, hr2⟩ := h2
  have HR := hide hr
  have HR2 := hide hr2
  clear hr hr2
  by_cases hlen : l.length = m.length
  · obtain ⟨n, hn⟩ : ∃ n, n = l.length := ⟨_, rfl⟩
    have hm : m.length = n := by omega
    rw [hm] at hc2 ⊢
    rw [← hn] at hc ⊢
    have hnb : n ≤ 1000000 := by omega
    have HN := hide hn
    have HM := hide hm
    clear hlen hn hm
    go_enter Try.func24, Try.ntmps24
    go_wp2
    go_loopw [5] (fun v5 wr => ∃ k : Nat, k ≤ n ∧ v5 = .int .i64 k ∧ l.take k = m.take k ∧ Ext NoS w wr) (fun i _ => n - (intOf i).toNat)
    case atStart => exact ⟨0, Nat.zero_le _, rfl, rfl, Ext.refl _ _⟩
    case round =>
      obtain ⟨k, hk, rfl, ht, hE⟩ := hrel
      have HT := hide ht
      have HE := hide hE
      by_cases hlt : k < n
      · have hlt1 : k < l.length := by have := HN.out; omega
        have hlt2 : k < m.length := by have := HM.out; omega
        obtain ⟨b, o, rfl, _, hrg⟩ := HR.out (by intro h; rw [h] at hlt1; simp at hlt1)
        obtain ⟨b2, o2, rfl, _, hrg2⟩ := HR2.out (by intro h; rw [h] at hlt2; simp at hlt2)
        have q1 : wr.cell? ⟨b, o + k, none⟩ = some (.string l[k]) := hE.cell (hrg k _ (by simp [hlt1])) (fun h => h)
        have q2 : wr.cell? ⟨b2, o2 + k, none⟩ = some (.string m[k]) := hE.cell (hrg2 k _ (by simp [hlt2])) (fun h => h)
        obtain ⟨x, hx⟩ : ∃ x, x = l[k]'hlt1 := ⟨_, rfl⟩
        obtain ⟨y, hy⟩ : ∃ y, y = m[k]'hlt2 := ⟨_, rfl⟩
        rw [show l[k] = x from hx.symm] at q1
        rw [show m[k] = y from hy.symm] at q2
        have HL1 := hide hlt1
        have HL2 := hide hlt2
        have HX := hide hx
        have HY := hide hy
        have hb1 : (k : Int) < (n : Int) := by omega
        clear hx hy hrg hrg2 hE ht
        go_upto_region 6 with fail
        go_cut [25] (fun v25 w' => v25 = .bool (decide (x ≠ y)) ∧ Ext NoS wr w')
        case first =>
          go_region
          all_goals
            go_wp2_with fail
            go_meet
            refine ⟨congrArg Value.bool ?_, (Ext.refl _ _).drew⟩
            rw [Bool.eq_iff_iff]
            simp only [Bool.not_eq_true', beq_eq_false_iff_ne, decide_eq_true_eq, ne_eq]
            exact not_congr ⟨fun h => text_inj h, fun h => by rw [h]⟩
        case rest =>
          obtain ⟨rfl, hE2⟩ := hcut
          have HE2 := hide (HE.out.trans' hE2)
          clear hE2
          by_cases hxy : x = y
          · have hd : decide (x ≠ y) = false := by simp [hxy]
            rw [hd]
            have hl2 : l.take (k + 1) = m.take (k + 1) := take_eq_succ k HL1.out HL2.out HT.out (by rw [← HX.out, ← HY.out]; exact hxy)
            have HT2 := hide hl2
            clear hd hl2 hxy
            go_wp2
            go_roundw
            case rel => exact ⟨k + 1, hlt, by go_num, HT2.out, HE2.out⟩
            case measure => simp [intOf]; omega
          · have hd : decide (x ≠ y) = true := by simp [hxy]
            rw [hd]
            have hf : decide (l = m) = false := decide_eq_false (fun h => hxy (by rw [HX.out, HY.out]; simp [h]))
            have HF := hide hf
            clear hd hf hxy
            go_wp2
            go_ret
            exact ⟨by rw [HF.out]; rfl, HE2.out⟩
      · have hkn : k = n := by omega
        subst hkn
        have ht2 : l = m := by
          have := HT.out
          rwa [List.take_of_length_le (by have := HN.out; omega), List.take_of_length_le (by have := HM.out; omega)] at this
        have HT2 := hide (decide_eq_true ht2)
        clear ht2 ht
        go_wp2
        go_ret
        exact ⟨by rw [HT2.out]; rfl, HE.out⟩
  · have hf : decide (l = m) = false := decide_eq_false (fun h => hlen (by rw [h]))
    have HF := hide hf
    clear hf
    obtain ⟨n, hn⟩ : ∃ n, n = l.length := ⟨_, rfl⟩
    obtain ⟨n2, hn2⟩ : ∃ n, n = m.length := ⟨_, rfl⟩
    rw [← hn, ← hn2] at hlen
    rw [← hn, ← hn2]
    clear hn hn2 hc hc2 HR HR2
    have hne : ¬ (n : Int) = (n2 : Int) := by omega
    go_enter Try.func24, Try.ntmps24
    go_wp2
    go_ret
    exact ⟨by rw [HF.out]; rfl, Ext.refl _ _⟩
end Go.Proofs.Ytmhhfhmpdpgmbaa
