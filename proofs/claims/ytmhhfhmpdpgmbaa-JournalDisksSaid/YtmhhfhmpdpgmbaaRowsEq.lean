/- rows. -/
import Derived.Test.YtmhhfhmpdpgmbaaSame
namespace Go.Proofs.Ytmhhfhmpdpgmbaa
open Go.RowKit

/-- A slice of slices of bytes that reads as a list of records. -/
def Rd (w : World) (v : Value) (recs : List (List UInt8)) : Prop :=
  ∃ A c, v = .slice A recs.length c ∧ ∀ k (hk : k < recs.length), ∃ b o Ak ck, A = some ⟨b, o, none⟩ ∧ w.cell? ⟨b, o + k, none⟩ = some (.slice Ak recs[k].length ck) ∧ Bytes (fun _ => True) w (.slice Ak recs[k].length ck) recs[k]
theorem Recs.rd {K : Nat → Prop} {w : World} {B : Nat} {v : Value} {recs : List (List UInt8)} (h : Recs K w B v recs) : Rd w v recs := by
  obtain ⟨vals, ho, hl, hb⟩ := h
  obtain ⟨A, c, rfl, hc, _⟩ := own_slice ho
  refine ⟨A, c, rfl, fun k hk => ?_⟩
  rcases ho.2 with ⟨hv, h0⟩ | ⟨g, cap, cur, hv, _⟩
  · omega
  · have hA : A = some ⟨g, 0, none⟩ := by injection hv
    subst hA
    have h1 := own_range ho rfl k (vals[k]'(by omega)) (by rw [List.getElem?_eq_getElem])
    obtain ⟨Ak, ck, hvk, hck, hr⟩ := hb k hk (by omega)
    rw [hvk] at h1
    exact ⟨g, 0, Ak, ck, rfl, h1, Ak, ck, rfl, hck, fun hn => by obtain ⟨b, o, h1, h2, h3⟩ := hr hn; exact ⟨b, o, h1, trivial, h3⟩⟩
theorem Rd.ext {w w' : World} {v : Value} {recs : List (List UInt8)} (h : Rd w v recs) (he : Ext NoS w w') : Rd w' v recs := by
  obtain ⟨A, c, rfl, h⟩ := h
  refine ⟨A, c, rfl, fun k hk => ?_⟩
  obtain ⟨b, o, Ak, ck, h1, h2, h3⟩ := h k hk
  exact ⟨b, o, Ak, ck, h1, he.cell h2 (fun h => h), h3.ext he (fun _ _ _ h => h)⟩

set_option maxRecDepth 100000 in
set_option maxHeartbeats 4000000 in
theorem rows_t (l m : List (List UInt8)) (v1 v2 : Value) (w : World) (h1 : Rd w v1 l) (h2 : Rd w v2 m) (hl : l.length ≤ 1000000) (hb : ∀ r ∈ l, r.length ≤ 1000000) (hb2 : ∀ r ∈ m, r.length ≤ 1000000) :
    Calls Try.prog 29 #[v1, v2] w fun e w' => e = .returned (.bool (decide (l = m))) ∧ Ext NoS w w' := by
  obtain ⟨A, c, rfl, hr⟩ := h1
  obtain ⟨A2, c2, rfl, hr2⟩ := h2
  have HR := hide hr
  have HR2 := hide hr2
  have HB := hide hb
  have HB2 := hide hb2
  clear hr hr2 hb hb2
  by_cases hlen : l.length = m.length
  · obtain ⟨n, hn⟩ : ∃ n, n = l.length := ⟨_, rfl⟩
    have hm : m.length = n := by omega
    rw [hm, ← hn]
    have hnb : n ≤ 1000000 := by omega
    have HN := hide hn
    have HM := hide hm
    clear hlen hn hm
    go_enter Try.func29, Try.ntmps29
    go_wp2
    go_loopw [13] (fun v5 wr => ∃ k : Nat, k ≤ n ∧ v5 = .int .i64 k ∧ l.take k = m.take k ∧ Ext NoS w wr) (fun i _ => n - (intOf i).toNat)
    case atStart => exact ⟨0, Nat.zero_le _, rfl, rfl, Ext.refl _ _⟩
    case round =>
      obtain ⟨k, hk, rfl, ht, hE⟩ := hrel
      have HT := hide ht
      have HE := hide hE
      by_cases hlt : k < n
      · have hlt1 : k < l.length := by have := HN.out; omega
        have hlt2 : k < m.length := by have := HM.out; omega
        obtain ⟨b, o, Ak, ck, rfl, hq1, hk1⟩ := HR.out k hlt1
        obtain ⟨b2, o2, Ak2, ck2, rfl, hq2, hk2⟩ := HR2.out k hlt2
        have q1 := hE.cell hq1 (fun h => h)
        have q2 := hE.cell hq2 (fun h => h)
        have hb1 : (k : Int) < (n : Int) := by omega
        have hsm : ∀ W2, Ext NoS wr W2 → Calls Try.prog 25 #[.slice Ak l[k].length ck, .slice Ak2 m[k].length ck2] W2 fun e w' => e = .returned (.bool (decide (l[k] = m[k]))) ∧ Ext NoS W2 w' := fun W2 hW =>
          sameBytes_t _ _ l[k] m[k] _ _ W2 (hk1.ext (hE.trans' hW) (fun _ _ _ h => h)) (hk2.ext (hE.trans' hW) (fun _ _ _ h => h)) (HB.out _ (List.getElem_mem _))
        obtain ⟨x, hx⟩ : ∃ x, x = l[k]'hlt1 := ⟨_, rfl⟩
        obtain ⟨y, hy⟩ : ∃ y, y = m[k]'hlt2 := ⟨_, rfl⟩
        simp only [← hx, ← hy] at q1 q2 hsm
        have HSM := hide hsm
        have HX := hide hx
        have HY := hide hy
        clear hx hy hE ht hq1 hq2 hk1 hk2 hsm
        go_upto_region 6 with fail
        go_cut [25] (fun v25 w' => v25 = .bool (!(decide (x = y))) ∧ Ext NoS wr w')
        case first =>
          go_region_with ((go_at_call 25; refine (HSM.out _ (Ext.refl NoS wr).drew).mono ?_; rintro e w5 ⟨rfl, hE5⟩))
          all_goals
            go_wp2_with fail
            go_meet
            exact ⟨rfl, (Ext.refl NoS wr).drew.trans' hE5⟩
        case rest =>
          obtain ⟨rfl, hE2⟩ := hcut
          have HE2 := hide (HE.out.trans' hE2)
          clear hE2
          by_cases hxy : x = y
          · have hd : (!(decide (x = y))) = false := by simp [hxy]
            rw [hd]
            have hl2 : l.take (k + 1) = m.take (k + 1) := take_eq_succ k hlt1 hlt2 HT.out (by rw [← HX.out, ← HY.out]; exact hxy)
            have HT2 := hide hl2
            clear hd hl2 hxy
            go_wp2
            go_roundw
            case rel => exact ⟨k + 1, hlt, by go_num, HT2.out, HE2.out⟩
            case measure => simp [intOf]; omega
          · have hd : (!(decide (x = y))) = true := by simp [hxy]
            rw [hd]
            have hf : decide (l = m) = false := decide_eq_false (fun h => hxy (by rw [HX.out, HY.out]; simp [h]))
            have HF := hide hf
            clear hd hf hxy
            go_wp2
            go_ret
            exact ⟨by rw [HF.out]; rfl, HE2.out⟩
      · have hkn : k = n := by omega
        subst hkn
        have ht2 : l = m := by
          have := HT.out
          rwa [List.take_of_length_le (by have := HN.out; omega), List.take_of_length_le (by have := HM.out; omega)] at this
        have HT2 := hide (decide_eq_true ht2)
        clear ht2 ht
        go_wp2
        go_ret
        exact ⟨by rw [HT2.out]; rfl, HE.out⟩
  · have hf : decide (l = m) = false := decide_eq_false (fun h => hlen (by rw [h]))
    have HF := hide hf
    clear hf
    obtain ⟨n, hn⟩ : ∃ n, n = l.length := ⟨_, rfl⟩
    obtain ⟨n2, hn2⟩ : ∃ n, n = m.length := ⟨_, rfl⟩
    rw [← hn, ← hn2] at hlen
    rw [← hn, ← hn2]
    clear hn hn2 HR HR2
    have hne : ¬ (n : Int) = (n2 : Int) := by omega
    go_enter Try.func29, Try.ntmps29
    go_wp2
    go_ret
    exact ⟨by rw [HF.out]; rfl, Ext.refl _ _⟩
end Go.Proofs.Ytmhhfhmpdpgmbaa
