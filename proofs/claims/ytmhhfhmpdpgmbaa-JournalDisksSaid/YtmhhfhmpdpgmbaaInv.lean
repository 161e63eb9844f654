/- What a journal's disk keeps: the invariant, and what the steps make of it. No walk. -/
import Derived.Test.YtmhhfhmpdpgmbaaPure
import Derived.Test.YtmhhfhmpdpgmbaaOpen0
namespace Go.Proofs.Ytmhhfhmpdpgmbaa

/-- The sectors of some records, one behind the other. -/
def recSs (e l : Nat) : Nat → List (List UInt8) → List Sec
  | _, [] => []
  | n, b :: bs => recS e l n b 0 ++ recSs e l (n + needN b.length) bs
/-- Writes of sectors from a place on. -/
def posW : Nat → List Sec → List (Int × Sec)
  | _, [] => []
  | p, w :: W => ((p : Int), w) :: posW (p + 1) W
theorem posW_length : ∀ (p : Nat) (W : List Sec), (posW p W).length = W.length
  | _, [] => rfl
  | p, w :: W => by rw [posW, List.length_cons, posW_length (p + 1) W, List.length_cons]
theorem posW_append : ∀ (p : Nat) (W W2 : List Sec), posW p (W ++ W2) = posW p W ++ posW (p + W.length) W2
  | p, [], W2 => rfl
  | p, w :: W, W2 => by rw [List.cons_append, posW, posW_append (p + 1) W W2, posW, List.cons_append, List.length_cons, show p + 1 + W.length = p + (W.length + 1) by omega]
theorem recW_pos (base e l n : Nat) (b : List UInt8) : recW (base : Nat) e l n b = posW (base + n) (recS e l n b 0) := by
  have h : ∀ (m k : Nat), (List.range' k m).map (fun k => ((base : Int) + ((n + k : Nat) : Int), secK e l n b k)) = posW (base + n + k) ((List.range' k m).map (secK e l n b)) := by
    intro m
    induction m with
    | zero => intro k; rfl
    | succ m ih =>
      intro k
      rw [List.range'_succ, List.map_cons, List.map_cons, posW, ih (k + 1)]
      congr 1
      · congr 1; omega
  unfold recW recS
  rw [List.range_eq_range']
  exact h _ 0
theorem recSs_snoc (e l : Nat) : ∀ (n : Nat) (bs : List (List UInt8)) (b : List UInt8), recSs e l n (bs ++ [b]) = recSs e l n bs ++ recS e l (n + (recSs e l n bs).length) b 0
  | n, [], b => by simp [recSs]
  | n, c :: bs, b => by
    rw [List.cons_append, recSs, recSs_snoc e l _ bs b, recSs, List.append_assoc, List.length_append, recS_length, show n + needN c.length + (recSs e l (n + needN c.length) bs).length = n + (needN c.length - 0 + (recSs e l (n + needN c.length) bs).length) by omega]
theorem recSs_li {ep li : Nat} (he1 : 1 ≤ ep) (he2 : ep ≤ 1073741824) (hl1 : 1 ≤ li) (hl2 : li ≤ 1073741824) : ∀ (bs : List (List UInt8)) (n : Nat), ∀ w ∈ recSs ep li n bs, mLi w = li
  | [], _, _, h => by simp [recSs] at h
  | b :: bs, n, w, h => by
    rw [recSs] at h
    rcases List.mem_append.1 h with h | h
    · simp only [recS, List.mem_map, List.mem_range'_1] at h
      obtain ⟨k, hk, rfl⟩ := h
      exact (secK_is ep li n b k he1 he2 hl1 hl2 (by omega)).li
    · exact recSs_li he1 he2 hl1 hl2 bs _ w h

/-- What is read of records that were appended and not all written. -/
theorem behind {ep li : Nat} (he1 : 1 ≤ ep) (he2 : ep ≤ 1073741824) (hl1 : 1 ≤ li) (hl2 : li ≤ 1073741824) : ∀ (bs : List (List UInt8)) (n l : Nat) (T T' : List Sec) (_ : Mix T (recSs ep li n bs) T') (_ : Stale ep li T n) (_ : reads ep T n true l = false) (_ : l ≤ li),
    ∃ k l2 Z, k ≤ bs.length ∧ T' = recSs ep li n (bs.take k) ++ Z ∧ l2 ≤ li ∧ (l2 = l ∨ (l2 = li ∧ 0 < k)) ∧ reads ep Z (n + (recSs ep li n (bs.take k)).length) true l2 = false ∧
      ∀ Y recs, scanGo ep (recSs ep li n (bs.take k) ++ Y) n true l [] recs n = scanGo ep Y (n + (recSs ep li n (bs.take k)).length) true l2 [] (recs ++ bs.take k) (n + (recSs ep li n (bs.take k)).length)
  | [], n, l, T, T', hm, hs, hr, hl => by
    cases hm
    exact ⟨0, l, T, Nat.le_refl _, rfl, hl, .inl rfl, by simpa [recSs] using hr, by simp [recSs]⟩
  | b :: bs, n, l, T, T', hm, hs, hr, hl => by
    rw [recSs] at hm
    rcases mix_first he1 he2 hl1 hl2 hm hs hr (recSs_li he1 he2 hl1 hl2 bs _) with ⟨T2, T2', rfl, hm2, _, hs2⟩ | h
    · obtain ⟨k, l2, Z, hk, rfl, h1, h2, h3, h4⟩ := behind he1 he2 hl1 hl2 bs (n + needN b.length) li T2 T2' hm2 hs2 (stale_reads hs2 true) (Nat.le_refl _)
      have hlen : n + (recSs ep li n (b :: bs.take k)).length = n + needN b.length + (recSs ep li (n + needN b.length) (bs.take k)).length := by
        rw [recSs, List.length_append, recS_length]; omega
      refine ⟨k + 1, l2, Z, by simpa using hk, by rw [List.take_succ_cons, recSs, List.append_assoc], h1, .inr ⟨by omega, by omega⟩, ?_, fun Y recs => ?_⟩
      · rw [List.take_succ_cons, hlen]; exact h3
      · rw [List.take_succ_cons, hlen, recSs, List.append_assoc, scan_rec he1 he2 hl1 hl2 _ _ _ _ hl, h4, List.append_assoc]
        rfl
    · exact ⟨0, l, T', Nat.zero_le _, rfl, hl, .inl rfl, by simpa [recSs] using h, by simp [recSs]⟩
/-- All of them written. -/
theorem behind_all {ep li : Nat} (he1 : 1 ≤ ep) (he2 : ep ≤ 1073741824) (hl1 : 1 ≤ li) (hl2 : li ≤ 1073741824) : ∀ (bs : List (List UInt8)) (n l : Nat) (_ : l ≤ li),
    ∃ l2, l2 ≤ li ∧ (l2 = l ∨ (l2 = li ∧ bs ≠ [])) ∧ (bs ≠ [] → l2 = li) ∧ ∀ Y recs, scanGo ep (recSs ep li n bs ++ Y) n true l [] recs n = scanGo ep Y (n + (recSs ep li n bs).length) true l2 [] (recs ++ bs) (n + (recSs ep li n bs).length)
  | [], n, l, hl => ⟨l, hl, .inl rfl, fun h => absurd rfl h, by simp [recSs]⟩
  | b :: bs, n, l, hl => by
    obtain ⟨l2, h1, h2, h3, h4⟩ := behind_all he1 he2 hl1 hl2 bs (n + needN b.length) li (Nat.le_refl _)
    have h5 : l2 = li := by rcases h2 with h2 | h2 <;> omega
    have hlen : n + (recSs ep li n (b :: bs)).length = n + needN b.length + (recSs ep li (n + needN b.length) bs).length := by
      rw [recSs, List.length_append, recS_length]; omega
    refine ⟨l2, h1, .inr ⟨h5, by simp⟩, fun _ => h5, fun Y recs => ?_⟩
    rw [hlen, recSs, List.append_assoc, scan_rec he1 he2 hl1 hl2 _ _ _ _ hl, h4, List.append_assoc]
    rfl

theorem mix_length : ∀ {T W T' : List Sec} (_ : Mix T W T'), T'.length = T.length
  | _, _, _, .done _ => rfl
  | _, _, _, .keep h => by rw [List.length_cons, List.length_cons, mix_length h]
  | _, _, _, .put h => by rw [List.length_cons, List.length_cons, mix_length h]
theorem mix_mem : ∀ {T W T' : List Sec} (_ : Mix T W T') (Q : Nat → Sec → Prop) (i : Nat), (∀ k (h : k < T.length), Q (i + k) T[k]) → (∀ k (h : k < W.length), Q (i + k) W[k]) → ∀ k (h : k < T'.length), Q (i + k) T'[k]
  | _, _, _, .done _, Q, i, h1, h2, k, h => h1 k h
  | _, _, _, .keep (t := t) (T := T) (w := w) (W := W) (T' := T') hm, Q, i, h1, h2, k, h => by
    cases k with
    | zero => exact h1 0 (by simp)
    | succ k =>
      have := mix_mem hm Q (i + 1) (fun k h => by have := h1 (k + 1) (by simpa using h); simpa [Nat.add_assoc, Nat.add_comm 1] using this) (fun k h => by have := h2 (k + 1) (by simpa using h); simpa [Nat.add_assoc, Nat.add_comm 1] using this) k (by simpa using h)
      simpa [Nat.add_assoc, Nat.add_comm 1] using this
  | _, _, _, .put (t := t) (T := T) (w := w) (W := W) (T' := T') hm, Q, i, h1, h2, k, h => by
    cases k with
    | zero => exact h2 0 (by simp)
    | succ k =>
      have := mix_mem hm Q (i + 1) (fun k h => by have := h1 (k + 1) (by simpa using h); simpa [Nat.add_assoc, Nat.add_comm 1] using this) (fun k h => by have := h2 (k + 1) (by simpa using h); simpa [Nat.add_assoc, Nat.add_comm 1] using this) k (by simpa using h)
      simpa [Nat.add_assoc, Nat.add_comm 1] using this

/-- What a crash makes of sectors that are written in a row. -/
theorem crash_row_go (M : List Bool) (R : List Sec) : ∀ (W T L : List Sec) (m : Nat), W.length ≤ T.length →
    ∃ T', Mix T W T' ∧ ((posW L.length W).zipIdx m).foldl (fun S (p : (Int × Sec) × Nat) => put1 S p.1 (M.getD p.2 false)) (L ++ (T ++ R)) = L ++ (T' ++ R) ∧ (M = [] → T' = W ++ T.drop W.length)
  | [], T, L, m, h => ⟨T, .done T, rfl, fun _ => by simp⟩
  | w :: W, [], L, m, h => by simp at h
  | w :: W, t :: T, L, m, h => by
    have h' : W.length ≤ T.length := by simpa using h
    have hp : put1 (L ++ (t :: T ++ R)) ((L.length : Int), w) (M.getD m false) = (L ++ [if M.getD m false = true then t else w]) ++ (T ++ R) := by
      cases hg : M.getD m false with
      | true => simp [put1]
      | false =>
        rw [put1, if_pos ⟨rfl, by simp, by simp; omega⟩, if_neg (by decide)]
        simp
    obtain ⟨T', h1, h2, h3⟩ := crash_row_go M R W T (L ++ [if M.getD m false = true then t else w]) (m + 1) h'
    refine ⟨(if M.getD m false = true then t else w) :: T', ?_, ?_, fun hM => ?_⟩
    · split
      · exact .keep h1
      · exact .put h1
    · rw [posW, List.zipIdx_cons, List.foldl_cons, hp]
      rw [List.length_append, List.length_singleton] at h2
      rw [h2]
      simp
    · rw [h3 hM, hM]
      simp
theorem crash_row (M : List Bool) (L T R W : List Sec) (h : W.length ≤ T.length) :
    ∃ T', Mix T W T' ∧ crash (L ++ (T ++ R)) (posW L.length W) M = L ++ (T' ++ R) ∧ (M = [] → T' = W ++ T.drop W.length) := crash_row_go M R W T L 0 h

/-- The life of some sector of a row, or none. -/
def Alive (l : Nat) (V : List Sec) (half : Nat) : Prop := l = 0 ∨ ∃ k, ∃ h : k < V.length, k < 2 * half ∧ readOk V[k] (k % half) = true ∧ sLife V[k] = l
/-- A sector as this journal writes them. -/
def GoodSec (half ep li : Nat) (k : Nat) (s : Sec) : Prop := s.length = 32 ∧ (s = zeroSec ∨ (readOk s (k % half) = true ∧ mLi s ≤ li ∧ mEp s ≤ ep))
theorem GoodSec.ep {half ep li k : Nat} {s : Sec} (h : GoodSec half ep li k s) : mEp s ≤ ep := by
  rcases h.2 with rfl | ⟨_, _, h⟩
  · rw [zero_ep]; omega
  · exact h
theorem GoodSec.mono {half ep li ep' li' k : Nat} {s : Sec} (h : GoodSec half ep li k s) (h1 : ep ≤ ep') (h2 : li ≤ li') : GoodSec half ep' li' k s :=
  ⟨h.1, h.2.imp id fun ⟨a, b, c⟩ => ⟨a, by omega, by omega⟩⟩

theorem lifeGo_spec (half : Nat) : ∀ (V : List Sec) (i : Nat) (acc : Nat × Nat), acc.1 ≤ (lifeGo half V i acc).1 ∧ acc.2 ≤ (lifeGo half V i acc).2 ∧ (∀ k (h : k < V.length), readOk V[k] ((i + k) % half) = true → sLife V[k] ≤ (lifeGo half V i acc).1) ∧
    (∀ B, acc.1 ≤ B → (∀ k (h : k < V.length), readOk V[k] ((i + k) % half) = true → sLife V[k] ≤ B) → (lifeGo half V i acc).1 ≤ B)
  | [], i, acc => ⟨Nat.le_refl _, Nat.le_refl _, fun k h => absurd h (by simp), fun B h _ => h⟩
  | s :: r, i, acc => by
    rw [lifeGo]
    obtain ⟨h1, h2, h3, h4⟩ := lifeGo_spec half r (i + 1) (if readOk s (i % half) = true then (max acc.1 (sLife s), max acc.2 (sEpoch s)) else acc)
    refine ⟨?_, ?_, fun k h hok => ?_, fun B hB hk => h4 B ?_ fun k h hok => ?_⟩
    · refine Nat.le_trans ?_ h1
      split
      · exact Nat.le_max_left ..
      · exact Nat.le_refl _
    · refine Nat.le_trans ?_ h2
      split
      · exact Nat.le_max_left ..
      · exact Nat.le_refl _
    · cases k with
      | zero =>
        refine Nat.le_trans ?_ h1
        have : readOk s (i % half) = true := hok
        rw [if_pos this]
        exact Nat.le_max_right ..
      | succ k => exact h3 k (by simpa using h) (by rw [show i + 1 + k = i + (k + 1) by omega]; simpa using hok)
    · split
      · rename_i hs
        exact Nat.max_le.2 ⟨hB, hk 0 (by simp) hs⟩
      · exact hB
    · exact hk (k + 1) (by simpa using h) (by rw [show i + (k + 1) = i + 1 + k by omega]; simpa using hok)
end Go.Proofs.Ytmhhfhmpdpgmbaa
