/- A crash while a checkpoint is being done: what Open finds then. No walk. -/
import Derived.Test.YtmhhfhmpdpgmbaaInvO
namespace Go.Proofs.Ytmhhfhmpdpgmbaa

/-- The writes that make some sectors into others, in order. -/
def diffs (A C : List Sec) (n : Nat) : List (Int × Sec) := ((List.range n).filter fun i => !(A.getD i [] == C.getD i [])).map fun (i : Nat) => ((i : Int), A.getD i [])
theorem diffs_zero (A C : List Sec) : diffs A C 0 = [] := rfl
theorem diffs_same (A C : List Sec) (n : Nat) (h : A.getD n [] = C.getD n []) : diffs A C (n + 1) = diffs A C n := by
  unfold diffs
  rw [List.range_succ, List.filter_append, List.filter_cons, if_neg (by rw [h]; simp)]
  simp
theorem diffs_other (A C : List Sec) (n : Nat) (h : ¬ A.getD n [] = C.getD n []) : diffs A C (n + 1) = diffs A C n ++ [((n : Int), A.getD n [])] := by
  unfold diffs
  rw [List.range_succ, List.filter_append, List.filter_cons, if_pos (by simp; exact h)]
  simp
theorem diffs_length (A C : List Sec) (n : Nat) : (diffs A C n).length ≤ n := by
  unfold diffs
  rw [List.length_map]
  exact Nat.le_trans (List.length_filter_le _ _) (by simp)
theorem diffs_mem {A C : List Sec} {n : Nat} {x : Int × Sec} (h : x ∈ diffs A C n) : ∃ i, i < n ∧ x = ((i : Int), A.getD i []) ∧ A.getD i [] ≠ C.getD i [] := by
  unfold diffs at h
  simp only [List.mem_map, List.mem_filter, List.mem_range, Bool.not_eq_true', beq_eq_false_iff_ne] at h
  obtain ⟨i, ⟨h1, h2⟩, rfl⟩ := h
  exact ⟨i, h1, rfl, h2⟩
theorem crash_append (S : List Sec) (P Q : List (Int × Sec)) (M : List Bool) : crash S (P ++ Q) M = crash (crash S P M) Q (M.drop P.length) := by
  have h : ∀ (Q : List (Int × Sec)) (S : List Sec) (n m : Nat), (Q.zipIdx (n + m)).foldl (fun S (p : (Int × Sec) × Nat) => put1 S p.1 (M.getD p.2 false)) S = (Q.zipIdx m).foldl (fun S (p : (Int × Sec) × Nat) => put1 S p.1 ((M.drop n).getD p.2 false)) S := by
    intro Q
    induction Q with
    | nil => intro S n m; rfl
    | cons x Q ih =>
      intro S n m
      rw [List.zipIdx_cons, List.zipIdx_cons, List.foldl_cons, List.foldl_cons, Nat.add_assoc, ih]
      congr 2
      simp [List.getD_eq_getElem?_getD, List.getElem?_drop]
  unfold crash
  rw [List.zipIdx_append, List.foldl_append, Nat.zero_add]
  exact h Q _ P.length 0
theorem getD_of {A : List Sec} {i : Nat} (h : i < A.length) : A.getD i [] = A[i] := by rw [List.getD_eq_getElem?_getD, List.getElem?_eq_getElem h]; rfl
/-- All of them done. -/
theorem crash_diffs (A C : List Sec) (hl : A.length = C.length) : crash C (diffs A C A.length) [] = A := by
  have h : ∀ n, n ≤ A.length → crash C (diffs A C n) [] = A.take n ++ C.drop n := by
    intro n
    induction n with
    | zero => intro _; rfl
    | succ n ih =>
      intro hn
      have ih := ih (by omega)
      have hc : C.drop n = C[n] :: C.drop (n + 1) := List.drop_eq_getElem_cons (by omega)
      have ha : A.take (n + 1) = A.take n ++ [A[n]] := List.take_succ_eq_append_getElem (by omega)
      by_cases he : A.getD n [] = C.getD n []
      · rw [diffs_same A C n he, ih, hc, ha]
        rw [getD_of (by omega), getD_of (by omega)] at he
        rw [he, List.append_assoc]
        rfl
      · rw [diffs_other A C n he, crash_snoc, ih, put1, if_pos ⟨by simp, by simp, by simp; omega⟩, getD_of (by omega), hc, ha]
        have hnl : (A.take n).length = n := by rw [List.length_take]; omega
        show (A.take n ++ C[n] :: C.drop (n + 1)).set n A[n] = _
        rw [List.set_append_right _ _ (by omega), hnl, Nat.sub_self, List.set_cons_zero, List.append_assoc]
        rfl
  rw [h A.length (Nat.le_refl _), List.take_length, List.drop_eq_nil_of_le (by omega), List.append_nil]

theorem crash_out {S : List Sec} {P : List (Int × Sec)} {M : List Bool} {k : Nat} (h : ∀ s, ((k : Int), s) ∉ P) : (crash S P M)[k]? = S[k]? := by
  cases hk : (crash S P M)[k]? with
  | none =>
    rw [List.getElem?_eq_none_iff, crash_length] at hk
    rw [List.getElem?_eq_none hk]
  | some s =>
    rcases crash_get hk with h1 | h1
    · exact h1.symm
    · exact absurd h1 (h s)
theorem mix_of : ∀ (T W T' : List Sec), T'.length = T.length → W.length ≤ T.length → (∀ q, q < W.length → T'[q]? = T[q]? ∨ T'[q]? = W[q]?) → (∀ q, W.length ≤ q → T'[q]? = T[q]?) → Mix T W T'
  | T, [], T', h1, _, _, h4 => by
    have : T' = T := List.ext_getElem? fun q => h4 q (Nat.zero_le _)
    rw [this]
    exact .done T
  | [], w :: W, T', _, h2, _, _ => by simp at h2
  | t :: T, w :: W, [], h1, _, _, _ => by simp at h1
  | t :: T, w :: W, t' :: T', h1, h2, h3, h4 => by
    have hm : Mix T W T' := mix_of T W T' (by simpa using h1) (by simpa using h2) (fun q hq => by simpa using h3 (q + 1) (by simpa using hq)) (fun q hq => by simpa using h4 (q + 1) (by simpa using hq))
    rcases h3 0 (by simp) with h | h
    · simp only [List.getElem?_cons_zero, Option.some.injEq] at h
      rw [h]
      exact .keep hm
    · simp only [List.getElem?_cons_zero, Option.some.injEq] at h
      rw [h]
      exact .put hm
theorem mix_head : ∀ {T W T' : List Sec} (_ : Mix T W T'), W ≠ [] → T'.headD [] = T.headD [] ∨ T'.headD [] = W.headD []
  | _, _, _, .done _, h => absurd rfl h
  | _, _, _, .keep _, _ => .inl rfl
  | _, _, _, .put _, _ => .inr rfl
theorem lives_le {V : List Sec} {half li : Nat} (h : ∀ k s, V[k]? = some s → k < 2 * half → readOk s (k % half) = true → mLi s ≤ li) : (lives V half).1 ≤ li := by
  refine (lifeGo_spec half _ 0 (0, 0)).2.2.2 li (Nat.zero_le _) fun k hk hok => ?_
  rw [List.length_take] at hk
  rw [List.getElem_take] at hok ⊢
  rw [Nat.zero_add] at hok
  rw [← mLi_ok hok]
  exact h k _ (List.getElem?_eq_getElem (by omega)) (by omega) hok
theorem GoodSec.li {half ep li k : Nat} {s : Sec} (h : GoodSec half ep li k s) (hok : readOk s (k % half) = true) : mLi s ≤ li := by
  rcases h.2 with rfl | ⟨_, h, _⟩
  · rw [zero_ok] at hok; cases hok
  · exact h
theorem area_get {V : List Sec} {half ar q : Nat} (hq : q < half) : (areaOf V half ar)[q]? = V[ar * half + q]? := by
  unfold areaOf
  rw [List.getElem?_take, if_pos hq, List.getElem?_drop]
theorem area_length {V : List Sec} {half ar : Nat} (har : ar ≤ 1) (hV : 2 * half ≤ V.length) : (areaOf V half ar).length = half := by
  unfold areaOf
  rw [List.length_take, List.length_drop]
  have : ar * half ≤ 1 * half := Nat.mul_le_mul_right _ har
  omega

section
variable {half : Nat} {S : List Sec} {P : List (Int × Sec)} {ar ep li en : Nat} {recs : List (List UInt8)} {safe : Nat} {L X T R : List Sec} {l0 : Nat}
/-- The pending writes lie in the journal's own area. -/
theorem Inv.pend_in (h : Inv half S P ar ep li en recs safe L X T R l0) {k : Nat} {s : Sec} (hk : ((k : Int), s) ∈ P) : ar * half ≤ k ∧ k < ar * half + half := by
  rw [h.pend] at hk
  obtain ⟨j, hj, hx⟩ := posW_mem _ _ _ hk
  injection hx with hx1 _
  have h1 := h.hen
  have h2 := h.hen2
  constructor <;> omega
theorem two_areas {half ar q : Nat} (har : ar ≤ 1) (hq : q < half) : ¬ (ar * half ≤ (1 - ar) * half + q ∧ (1 - ar) * half + q < ar * half + half) := by
  rcases Nat.lt_or_ge ar 1 with h0 | h0
  · have : ar = 0 := by omega
    subst this
    omega
  · have : ar = 1 := by omega
    subst this
    omega
/-- The other area behind a checkpoint. -/
theorem Inv.check_area (h : Inv half S P ar ep li en recs safe L X T R l0) (b : List UInt8) (hb : needN b.length ≤ half) {A : List Sec}
    (hA : A = Go.Proofs.Ytmhhfhmpdpgmbaa.crash S (P ++ recW ((1 - ar) * half : Nat) (ep + 1) li 0 b) []) :
    (∀ q, q < half → A[(1 - ar) * half + q]? = (recS (ep + 1) li 0 b 0 ++ (areaOf S half (1 - ar)).drop (needN b.length))[q]?) ∧ (∀ q, q < half → A[ar * half + q]? = (Go.Proofs.Ytmhhfhmpdpgmbaa.crash S P [])[ar * half + q]?) := by
  have har := h.har
  have hS := h.hS
  have hpos : recW ((1 - ar) * half : Nat) (ep + 1) li 0 b = posW ((1 - ar) * half) (recS (ep + 1) li 0 b 0) := by rw [recW_pos]; rfl
  have hrl : (recS (ep + 1) li 0 b 0).length = needN b.length := recS_length
  have hV := crash_two S P (recW ((1 - ar) * half : Nat) (ep + 1) li 0 b)
  rw [← hA] at hV
  obtain ⟨V, hVd⟩ : ∃ V, V = Go.Proofs.Ytmhhfhmpdpgmbaa.crash S P [] := ⟨_, rfl⟩
  have hVS : 2 * half ≤ V.length := by rw [hVd, crash_length]; exact hS
  have hVo : ∀ q, q < half → V[(1 - ar) * half + q]? = S[(1 - ar) * half + q]? := fun q hq => by
    rw [hVd]
    exact crash_out fun s hs => two_areas har hq (h.pend_in hs)
  rw [← hVd] at hV ⊢
  have har2 : (1 - ar) * half + half ≤ 2 * half := by
    have : (1 - ar) * half ≤ 1 * half := Nat.mul_le_mul_right _ (by omega)
    omega
  have hl1 : (V.take ((1 - ar) * half)).length = (1 - ar) * half := by rw [List.length_take]; omega
  have hl2 : (areaOf V half (1 - ar)).length = half := area_length (by omega) hVS
  have hsp : V = V.take ((1 - ar) * half) ++ (areaOf V half (1 - ar) ++ (V.drop ((1 - ar) * half)).drop half) := by unfold areaOf; rw [List.take_append_drop, List.take_append_drop]
  obtain ⟨T', hm, hc, hall⟩ := crash_row [] (V.take ((1 - ar) * half)) (areaOf V half (1 - ar)) ((V.drop ((1 - ar) * half)).drop half) (recS (ep + 1) li 0 b 0) (by rw [hrl, hl2]; exact hb)
  have hT' := hall rfl
  have hTl := mix_length hm
  rw [hl1, ← hsp, ← hpos, ← hV] at hc
  have harea : areaOf V half (1 - ar) = areaOf S half (1 - ar) := by
    refine List.ext_getElem? fun q => ?_
    by_cases hq : q < half
    · rw [area_get hq, area_get hq, hVo q hq]
    · rw [List.getElem?_eq_none (by omega), List.getElem?_eq_none (by rw [area_length (by omega) hS]; omega)]
  constructor
  · intro q hq
    rw [hc, List.getElem?_append_right (by omega), hl1, Nat.add_sub_cancel_left, List.getElem?_append_left (by omega), hT', hrl, harea]
  · intro q hq
    rw [hV]
    refine crash_out fun s hs => ?_
    rw [hpos] at hs
    obtain ⟨j, hj, hx⟩ := posW_mem _ _ _ hs
    injection hx with hx1 _
    have := two_areas (q := q) (half := half) (ar := 1 - ar) (by omega) hq
    rw [show 1 - (1 - ar) = ar by omega] at this
    omega

/-- A crash in the middle of a checkpoint. -/
theorem Inv.snap (h : Inv half S P ar ep li en recs safe L X T R l0) (hh : half = S.length / 2) (b : List UInt8) (hb : needN b.length ≤ half) (hep : ep < 1073741824) (M : List Bool) {A C V : List Sec}
    (hA : A = Go.Proofs.Ytmhhfhmpdpgmbaa.crash S (P ++ recW ((1 - ar) * half : Nat) (ep + 1) li 0 b) []) (hC : C = Go.Proofs.Ytmhhfhmpdpgmbaa.crash S P []) (hV : V = Go.Proofs.Ytmhhfhmpdpgmbaa.crash S (P ++ diffs A C A.length) M) :
    (lives V half).1 ≤ li ∧
    ((∃ k en', safe ≤ k ∧ k ≤ recs.length ∧ scanA (areaOf V half ar) = (recs.take k, en') ∧ scanEp (areaOf V half ar) = ep ∧ ((scanA (areaOf V half (1 - ar))).1 = [] ∨ scanEp (areaOf V half (1 - ar)) < ep)) ∨
      (scanA (areaOf V half (1 - ar)) = ([b], needN b.length) ∧ scanEp (areaOf V half (1 - ar)) = ep + 1 ∧ scanEp (areaOf V half ar) < ep + 1)) := by
  have har := h.har
  have hS := h.hS
  obtain ⟨hA1, hA2⟩ := h.check_area b hb hA
  have hAl : A.length = S.length := by rw [hA, crash_length]
  have hCl : C.length = S.length := by rw [hC, crash_length]
  have hVl : V.length = S.length := by rw [hV, crash_length]
  rw [crash_append] at hV
  obtain ⟨V0, hV0⟩ : ∃ V0, V0 = Go.Proofs.Ytmhhfhmpdpgmbaa.crash S P M := ⟨_, rfl⟩
  rw [← hV0] at hV
  have hV0l : V0.length = S.length := by rw [hV0, crash_length]
  obtain ⟨k, en', X', Z, l1, k1, k2, _, k4, k5, k6, _, _, _⟩ := h.crash M hh
  rw [← hV0] at k4 k5 k6
  obtain ⟨L2, X2, T2, R2, hI2⟩ := h.check hh b hb hep
  rw [← hA] at hI2
  have hget : ∀ k s, V[k]? = some s → V0[k]? = some s ∨ (A[k]? = some s ∧ A[k]? ≠ C[k]?) := fun k s hk => by
    rw [hV] at hk
    rcases crash_get hk with hk | hk
    · exact .inl hk
    · right
      obtain ⟨i, hi, hx, hne⟩ := diffs_mem hk
      injection hx with hx1 hx2
      have : k = i := by omega
      subst this
      rw [getD_of hi] at hx2 hne
      rw [getD_of (by omega)] at hne
      rw [List.getElem?_eq_getElem hi, List.getElem?_eq_getElem (by omega), hx2]
      exact ⟨rfl, fun h => hne (by injection h)⟩
  have hsame : areaOf V half ar = areaOf V0 half ar := by
    refine List.ext_getElem? fun q => ?_
    by_cases hq : q < half
    · rw [area_get hq, area_get hq, hV]
      refine crash_out fun s hs => ?_
      obtain ⟨i, hi, hx, hne⟩ := diffs_mem hs
      injection hx with hx1 hx2
      have : i = ar * half + q := by omega
      subst this
      have := hA2 q hq
      rw [← hC] at this
      exact hne (by rw [List.getD_eq_getElem?_getD, List.getD_eq_getElem?_getD, this])
    · rw [List.getElem?_eq_none (by rw [area_length har (by omega)]; omega), List.getElem?_eq_none (by rw [area_length har (by omega)]; omega)]
  have hgood : ∀ k s, V0[k]? = some s → k < 2 * half → GoodSec half (ep + 1) li k s := fun k s hk hlt => by
    rw [hV0] at hk
    rcases crash_get hk with hk | hk
    · exact (h.good k s hk hlt).mono (by omega) (Nat.le_refl _)
    · rw [h.pend] at hk
      obtain ⟨j, hj, hx⟩ := posW_mem _ _ _ hk
      obtain ⟨m, b, q, h1, h2, h3⟩ := recSs_get (e := ep) (l := li) _ _ j hj
      injection hx with hx1 hx2
      rw [hx2, h3, show k = ar * half + (m + q) by omega]
      exact (secK_good h.he1 h.he2 h.hl1 h.hl2 h1 (by have := h.hen; have := h.hen2; omega)).mono (by omega) (Nat.le_refl _)
  refine ⟨lives_le fun k s hk hlt hok => ?_, ?_⟩
  · rcases hget k s hk with hk | ⟨hk, _⟩
    · exact (hgood k s hk hlt).li hok
    · exact (hI2.good k s hk hlt).li hok
  -- the other area
  have hOl : (areaOf S half (1 - ar)).length = half := area_length (by omega) hS
  have hOg : ∀ q (hq : q < half), GoodSec half ep li ((1 - ar) * half + q) ((areaOf S half (1 - ar))[q]'(by omega)) := fun q hq => by
    refine h.good _ _ ?_ ?_
    · rw [← area_get hq, List.getElem?_eq_getElem (by omega)]
    · have : (1 - ar) * half ≤ 1 * half := Nat.mul_le_mul_right _ (by omega)
      omega
  have hrl : (recS (ep + 1) li 0 b 0).length = needN b.length := recS_length
  have hmix : Mix (areaOf S half (1 - ar)) (recS (ep + 1) li 0 b 0) (areaOf V half (1 - ar)) := by
    have hV0S : ∀ q, q < half → V0[(1 - ar) * half + q]? = (areaOf S half (1 - ar))[q]? := fun q hq => by
      rw [hV0, area_get hq]
      exact crash_out fun s hs => two_areas har hq (h.pend_in hs)
    have hcase : ∀ q, q < half → (areaOf V half (1 - ar))[q]? = (areaOf S half (1 - ar))[q]? ∨ (areaOf V half (1 - ar))[q]? = (recS (ep + 1) li 0 b 0 ++ (areaOf S half (1 - ar)).drop (needN b.length))[q]? := fun q hq => by
      rw [area_get hq]
      have hlt : (1 - ar) * half + q < V.length := by
        have : (1 - ar) * half ≤ 1 * half := Nat.mul_le_mul_right _ (by omega)
        omega
      rcases hget _ _ (List.getElem?_eq_getElem hlt) with hk | ⟨hk, _⟩
      · left
        rw [List.getElem?_eq_getElem hlt, ← hk, hV0S q hq]
      · right
        rw [List.getElem?_eq_getElem hlt, ← hk, hA1 q hq]
    refine mix_of _ _ _ (by rw [hOl, area_length (by omega) (by omega)]) (by rw [hrl, hOl]; exact hb) (fun q hq => ?_) (fun q hq => ?_)
    · rcases hcase q (by omega) with hk | hk
      · exact .inl hk
      · right
        rw [hk, List.getElem?_append_left hq]
    · by_cases hq2 : q < half
      · rcases hcase q hq2 with hk | hk
        · exact hk
        · rw [hk, List.getElem?_append_right hq, List.getElem?_drop]
          congr 1
          omega
      · rw [List.getElem?_eq_none (by rw [area_length (by omega) (by omega)]; omega), List.getElem?_eq_none (by omega)]
  have hstale : Stale (ep + 1) li (areaOf S half (1 - ar)) 0 := stale_of _ _ fun q hq _ he => by
    have := (hOg q (by omega)).ep
    omega
  have hnone : reads (ep + 1) (areaOf S half (1 - ar)) 0 true 0 = false := by
    cases hc : areaOf S half (1 - ar) with
    | nil => rfl
    | cons t r =>
      rw [reads]
      have hg : ¬ goesOn t 0 (ep + 1) 0 true = true := fun hg => by
        obtain ⟨_, he, _⟩ := goes_parts hg
        have := (hOg 0 (by have := h.hh; omega)).ep
        simp only [hc, List.getElem_cons_zero] at this
        omega
      rw [eq_false_of_ne_true hg]
      rfl
  have hhd : mEp ((areaOf S half (1 - ar)).headD []) < ep := by
    have := h.other
    rw [show (areaOf S half (1 - ar)).headD [] = (S.drop ((1 - ar) * half)).headD [] from by
      unfold areaOf
      have := h.hh
      cases S.drop ((1 - ar) * half) with
      | nil => simp
      | cons s r => rw [show half = (half - 1) + 1 by omega]; rfl]
    exact this
  have hsec0 : SecIs (secK (ep + 1) li 0 b 0) 0 (ep + 1) li (flagK b 0) (payK b 0) := secK_is (ep + 1) li 0 b 0 (by omega) (by omega) h.hl1 h.hl2 (needN_pos _)
  have hm2 : Mix (areaOf S half (1 - ar)) (recS (ep + 1) li 0 b 0 ++ []) (areaOf V half (1 - ar)) := by rw [List.append_nil]; exact hmix
  rcases mix_first (Wr := []) (by omega) (by omega) h.hl1 h.hl2 hm2 hstale hnone (fun w hw => by simp at hw) with ⟨T2, T2', hT, hm3, hT2, hst2⟩ | hno
  · right
    cases hm3
    have hep2 : scanEp (areaOf V half (1 - ar)) = ep + 1 := by
      rw [hT, recS_cons (needN_pos _)]
      exact hsec0.ep
    refine ⟨?_, hep2, by rw [hsame, k6]; omega⟩
    unfold scanA
    rw [hep2, hT, scan_rec (by omega) (by omega) h.hl1 h.hl2 _ _ _ _ (Nat.zero_le _), Nat.zero_add]
    rw [Nat.zero_add] at hst2
    rw [reads_no _ _ _ _ _ _ _ _ (stale_reads hst2 true)]
    rfl
  · left
    refine ⟨k, en', k1, k2, by rw [hsame]; exact k5, by rw [hsame]; exact k6, ?_⟩
    rcases mix_head hmix (fun hW => by have := needN_pos b.length; rw [hW] at hrl; simp at hrl; omega) with hd | hd
    · right
      show mEp ((areaOf V half (1 - ar)).headD []) < ep
      rw [hd]
      exact hhd
    · left
      have hep2 : scanEp (areaOf V half (1 - ar)) = ep + 1 := by
        show mEp ((areaOf V half (1 - ar)).headD []) = ep + 1
        rw [hd, recS_cons (needN_pos _)]
        exact hsec0.ep
      unfold scanA
      rw [hep2, reads_no _ _ _ _ _ _ _ _ hno]
end
end Go.Proofs.Ytmhhfhmpdpgmbaa
