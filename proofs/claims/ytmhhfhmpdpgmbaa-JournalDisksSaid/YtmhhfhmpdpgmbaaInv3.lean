/- The invariant behind an append, a checkpoint, on a new disk. No walk. -/
import Derived.Test.YtmhhfhmpdpgmbaaInv2
namespace Go.Proofs.Ytmhhfhmpdpgmbaa

section
variable {half : Nat} {S : List Sec} {P : List (Int × Sec)} {ar ep li en : Nat} {recs : List (List UInt8)} {safe : Nat} {L X T R : List Sec} {l0 : Nat}
theorem Inv.append (h : Inv half S P ar ep li en recs safe L X T R l0) (b : List UInt8) (hb : en + needN b.length ≤ half) :
    Inv half S (P ++ recW (ar * half : Nat) ep li en b) ar ep li (en + needN b.length) (recs ++ [b]) safe L X T R l0 := by
  have hd : (recs ++ [b]).drop safe = recs.drop safe ++ [b] := List.drop_append_of_le_length h.hsafe2
  have ht : (recs ++ [b]).take safe = recs.take safe := List.take_append_of_le_length h.hsafe2
  exact { h with
    hsafe2 := by rw [List.length_append]; have := h.hsafe2; omega
    runs := by rw [ht]; exact h.runs
    pend := by rw [hd, recSs_snoc, posW_append, ← h.pend, recW_pos, ← h.hen, Nat.add_assoc, ← h.hen]
    hen := by rw [hd, recSs_snoc, List.length_append, recS_length, h.hen]; omega
    hen2 := hb }

theorem crash_two (S : List Sec) (P Q : List (Int × Sec)) : crash S (P ++ Q) [] = crash (crash S P []) Q [] := by
  have h : ∀ (Q : List (Int × Sec)) (S : List Sec) (m : Nat), (Q.zipIdx m).foldl (fun S (p : (Int × Sec) × Nat) => put1 S p.1 (([] : List Bool).getD p.2 false)) S = Q.foldl (fun S x => put1 S x false) S := by
    intro Q
    induction Q with
    | nil => intro S m; rfl
    | cons x Q ih => intro S m; rw [List.zipIdx_cons, List.foldl_cons, List.foldl_cons, ih]; rfl
  unfold crash
  rw [h, h, h, List.foldl_append]

/-- A checkpoint. -/
theorem Inv.check (h : Inv half S P ar ep li en recs safe L X T R l0) (hhalf : half = S.length / 2) (b : List UInt8) (hb : needN b.length ≤ half) (hep : ep < 1073741824) :
    ∃ L X T R, Inv half (Go.Proofs.Ytmhhfhmpdpgmbaa.crash S (P ++ recW ((1 - ar) * half : Nat) (ep + 1) li 0 b) []) [] (1 - ar) (ep + 1) li (needN b.length) [b] 1 L X T R li := by
  obtain ⟨k, en', X', Z, l1, _, _, _, _, _, _, _, _, hI⟩ := h.crash [] hhalf
  have hI := hI rfl
  have hV := crash_two S P (recW ((1 - ar) * half : Nat) (ep + 1) li 0 b)
  obtain ⟨V, hVd⟩ : ∃ V, V = Go.Proofs.Ytmhhfhmpdpgmbaa.crash S P [] := ⟨_, rfl⟩
  rw [← hVd] at hI hV
  have hVS := hI.hS
  have har := h.har
  have hsp : V = V.take ((1 - ar) * half) ++ ((V.drop ((1 - ar) * half)).take half ++ (V.drop ((1 - ar) * half)).drop half) := by rw [List.take_append_drop, List.take_append_drop]
  have har2 : (1 - ar) * half + half ≤ 2 * half := by
    rcases Nat.lt_or_ge ar 1 with h0 | h0
    · rw [show ar = 0 by omega]; omega
    · rw [show ar = 1 by omega]; omega
  have hl1 : (V.take ((1 - ar) * half)).length = (1 - ar) * half := by rw [List.length_take]; omega
  have hl2 : ((V.drop ((1 - ar) * half)).take half).length = half := by rw [List.length_take, List.length_drop]; omega
  have hrl : (recS (ep + 1) li 0 b 0).length = needN b.length := recS_length
  obtain ⟨T', hm, hc, hall⟩ := crash_row [] (V.take ((1 - ar) * half)) ((V.drop ((1 - ar) * half)).take half) ((V.drop ((1 - ar) * half)).drop half) (recS (ep + 1) li 0 b 0) (by rw [hrl, hl2]; exact hb)
  have hT' := hall rfl
  rw [hl1, ← hsp] at hc
  rw [hrl] at hT'
  have hpos : recW ((1 - ar) * half : Nat) (ep + 1) li 0 b = posW ((1 - ar) * half) (recS (ep + 1) li 0 b 0) := by rw [recW_pos]; rfl
  rw [hpos, hc, hT', List.append_assoc] at hV
  have hmod : ∀ j, j < half → ((1 - ar) * half + j) % half = j := fun j hj => by rw [Nat.mul_comm, Nat.mul_add_mod, Nat.mod_eq_of_lt hj]
  have hsec : ∀ q, q < needN b.length → SecIs (secK (ep + 1) li 0 b q) q (ep + 1) li (flagK b q) (payK b q) := fun q hq => by
    have := secK_is (ep + 1) li 0 b q (by omega) (by omega) h.hl1 h.hl2 hq
    rwa [Nat.zero_add] at this
  have h0 := needN_pos b.length
  have hst : Stale (ep + 1) li (((V.drop ((1 - ar) * half)).take half).drop (needN b.length)) (recS (ep + 1) li 0 b 0).length := by
    rw [hrl]
    refine stale_of _ _ fun j hj h1 h2 => ?_
    rw [List.getElem_drop, List.getElem_take, List.getElem_drop] at h2
    rw [List.length_drop, hl2] at hj
    have := (hI.good ((1 - ar) * half + (needN b.length + j)) _ (List.getElem?_eq_getElem (by omega)) (by omega)).ep
    omega
  rw [hpos, hV]
  refine ⟨V.take ((1 - ar) * half), recS (ep + 1) li 0 b 0, ((V.drop ((1 - ar) * half)).take half).drop (needN b.length), (V.drop ((1 - ar) * half)).drop half, ?_⟩
  exact {
    split := rfl
    hL := hl1
    hXT := by rw [hrl, List.length_drop, hl2]; omega
    hS := by rw [List.length_append, List.length_append, List.length_append, hl1, hrl, List.length_drop, hl2, List.length_drop, List.length_drop]; omega
    hh := h.hh, har := by omega, he1 := by omega, he2 := by omega, hl1 := h.hl1, hl2 := h.hl2, hsafe := Nat.le_refl _, hsafe2 := Nat.le_refl _
    head := ⟨secK (ep + 1) li 0 b 0, recS (ep + 1) li 0 b 1, recS_cons h0, (hsec 0 h0).ep⟩
    runs := fun Y rc => by rw [scan_rec (by omega) (by omega) h.hl1 h.hl2 _ _ _ _ (Nat.zero_le _), hrl, Nat.zero_add]; rfl
    hl0 := Nat.le_refl _
    alive := .inr ⟨0, by rw [hrl]; exact h0, by rw [recS_get]; exact (hsec 0 h0).ok, by rw [recS_get]; exact (hsec 0 h0).li⟩
    stops := stale_reads hst true
    stale := hst
    pend := rfl
    hen := by rw [hrl]; rfl
    hen2 := hb
    good := fun k s hk hlt => by
      have hk2 : (Go.Proofs.Ytmhhfhmpdpgmbaa.crash S (P ++ posW ((1 - ar) * half) (recS (ep + 1) li 0 b 0)) [])[k]? = some s := by
        rw [hV]; exact hk
      rw [crash_two, ← hVd] at hk2
      rcases crash_get hk2 with hk2 | hk2
      · exact (hI.good k s hk2 hlt).mono (by omega) (Nat.le_refl _)
      · obtain ⟨j, hj, hx⟩ := posW_mem _ _ _ hk2
        injection hx with hx1 hx2
        rw [hrl] at hj
        rw [hx2, recS_get, show k = (1 - ar) * half + (0 + j) by omega]
        exact secK_good (by omega) (by omega) h.hl1 h.hl2 hj (by omega)
    other := by
      have hsame : ((V.take ((1 - ar) * half) ++ (recS (ep + 1) li 0 b 0 ++ (((V.drop ((1 - ar) * half)).take half).drop (needN b.length) ++ (V.drop ((1 - ar) * half)).drop half))).drop ((1 - (1 - ar)) * half)).headD [] = (V.drop (ar * half)).headD [] := by
        rcases Nat.lt_or_ge ar 1 with hz | hz
        · have : ar = 0 := by omega
          subst this
          have : half ≤ V.length := by omega
          have hh := h.hh
          cases V with
          | nil => simp at this; omega
          | cons v V => rw [show (1 - 0) * half = (half - 1) + 1 by omega]; simp
        · have : ar = 1 := by omega
          subst this
          simp only [Nat.sub_self, Nat.zero_mul, Nat.sub_zero, Nat.one_mul, List.take_zero, List.drop_zero, List.nil_append]
          rw [← List.append_assoc, List.drop_left' (by rw [List.length_append, hrl, List.length_drop, List.length_take]; omega)]
      rw [hsame]
      obtain ⟨s, r, hx, he⟩ := hI.head
      rw [hI.split, ← hI.hL, List.drop_left, hx]
      show mEp s < ep + 1
      omega }
end
theorem lifeGo_none (half : Nat) : ∀ (V : List Sec) (i : Nat) (acc : Nat × Nat), (∀ s ∈ V, ∀ i, readOk s i = false) → lifeGo half V i acc = acc
  | [], _, _, _ => rfl
  | s :: r, i, acc, h => by
    rw [lifeGo, h s (List.mem_cons_self ..), if_neg (by decide)]
    exact lifeGo_none half r _ _ fun s hs => h s (List.mem_cons_of_mem _ hs)
theorem lives_zero (n half : Nat) : lives (List.replicate n zeroSec) half = (0, 0) := by
  refine lifeGo_none half _ _ _ fun s hs i => ?_
  rw [List.eq_of_mem_replicate (List.mem_of_mem_take hs)]
  exact zero_ok i
theorem scan_zero (n : Nat) : scanA (List.replicate n zeroSec) = ([], 0) := by
  unfold scanA
  cases n with
  | zero => rfl
  | succ n =>
    rw [List.replicate_succ, scanGo, if_neg]
    unfold goesOn
    rw [zero_ok]
    simp
/-- A new disk that was opened. -/
theorem Inv.new (n : Nat) (hn : 4 ≤ n) : ∃ L X T R, Inv (n / 2) (Go.Proofs.Ytmhhfhmpdpgmbaa.crash (List.replicate n zeroSec) (recW 0 1 1 0 []) []) [] 0 1 1 1 [[]] 1 L X T R 1 := by
  have hsec : SecIs (secK 1 1 0 [] 0) 0 1 1 3 [] := secK_is 1 1 0 [] 0 (by decide) (by decide) (by decide) (by decide) (by decide)
  have hc : Go.Proofs.Ytmhhfhmpdpgmbaa.crash (List.replicate n zeroSec) (recW 0 1 1 0 []) [] = secK 1 1 0 [] 0 :: List.replicate (n - 1) zeroSec := by
    rw [show n = (n - 1) + 1 by omega, List.replicate_succ]
    show put1 (zeroSec :: List.replicate (n - 1) zeroSec) (0, secK 1 1 0 [] 0) false = _
    rw [put1, if_pos ⟨rfl, Int.le_refl _, by simp⟩]
    rfl
  have hrep : List.replicate (n - 1) zeroSec = List.replicate (n / 2 - 1) zeroSec ++ List.replicate (n - n / 2) zeroSec := by
    rw [List.replicate_append_replicate]
    congr 1
    omega
  have hst : Stale 1 1 (List.replicate (n / 2 - 1) zeroSec) 1 := stale_of _ _ fun k h h1 _ => by
    rw [List.getElem_replicate, zero_ok] at h1
    cases h1
  rw [hc]
  refine ⟨[], [secK 1 1 0 [] 0], List.replicate (n / 2 - 1) zeroSec, List.replicate (n - n / 2) zeroSec, ?_⟩
  exact {
    split := by rw [hrep]; rfl
    hL := by simp
    hXT := by simp; omega
    hS := by simp; omega
    hh := by omega, har := by decide, he1 := by decide, he2 := by decide, hl1 := by decide, hl2 := by decide, hsafe := by decide, hsafe2 := by decide
    head := ⟨_, _, rfl, hsec.ep⟩
    runs := fun Y rc => scan_rec (n := 0) (b := []) (by decide) (by decide) (by decide) (by decide) Y rc 0 0 (by decide)
    hl0 := by decide
    alive := .inr ⟨0, by simp, hsec.ok, hsec.li⟩
    stops := stale_reads hst true
    stale := hst
    pend := rfl
    hen := rfl
    hen2 := by omega
    good := fun k s hk _ => by
      cases k with
      | zero =>
        simp only [List.getElem?_cons_zero, Option.some.injEq] at hk
        subst hk
        exact ⟨secK_length _ _ _ _ _, .inr ⟨by rw [Nat.zero_mod]; exact hsec.ok, by rw [hsec.li]; exact Nat.le_refl _, by rw [hsec.ep]; exact Nat.le_refl _⟩⟩
      | succ k =>
        rw [List.getElem?_cons_succ] at hk
        have := List.eq_of_mem_replicate (List.mem_of_getElem? hk)
        subst this
        exact ⟨rfl, .inl rfl⟩
    other := by
      have : (secK 1 1 0 [] 0 :: List.replicate (n - 1) zeroSec).drop ((1 - 0) * (n / 2)) = List.replicate (n - n / 2) zeroSec := by
        rw [show (1 - 0) * (n / 2) = (n / 2 - 1) + 1 by omega, List.drop_succ_cons, List.drop_replicate]
        congr 1
        omega
      rw [this, show n - n / 2 = (n - n / 2 - 1) + 1 by omega, List.replicate_succ]
      show mEp zeroSec < 1
      rw [zero_ep]
      decide }
end Go.Proofs.Ytmhhfhmpdpgmbaa
