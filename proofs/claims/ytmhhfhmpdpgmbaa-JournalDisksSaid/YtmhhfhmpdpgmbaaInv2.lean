/- The invariant of a journal and its disk, and what the steps make of it. No walk. -/
import Derived.Test.YtmhhfhmpdpgmbaaInv
namespace Go.Proofs.Ytmhhfhmpdpgmbaa

theorem crash_get_go (M : List Bool) : ∀ (Q : List ((Int × Sec) × Nat)) (S : List Sec) (k : Nat) (s : Sec), (Q.foldl (fun S (p : (Int × Sec) × Nat) => put1 S p.1 (M.getD p.2 false)) S)[k]? = some s → S[k]? = some s ∨ ∃ q ∈ Q, q.1 = ((k : Int), s)
  | [], S, k, s, h => .inl h
  | q :: Q, S, k, s, h => by
    rw [List.foldl_cons] at h
    rcases crash_get_go M Q _ k s h with h | ⟨q', hq, e⟩
    · unfold put1 at h
      split at h
      · rename_i hc
        rw [List.getElem?_set] at h
        split at h
        · rename_i hk
          right
          refine ⟨q, List.mem_cons_self .., ?_⟩
          split at h
          · injection h with h
            rw [← h]
            exact Prod.ext (by show q.1.1 = (k : Int); omega) rfl
          · cases h
        · exact .inl h
      · exact .inl h
    · exact .inr ⟨q', List.mem_cons_of_mem _ hq, e⟩
theorem crash_get {S : List Sec} {P : List (Int × Sec)} {M : List Bool} {k : Nat} {s : Sec} (h : (crash S P M)[k]? = some s) : S[k]? = some s ∨ ((k : Int), s) ∈ P := by
  rcases crash_get_go M _ S k s h with h | ⟨q, hq, e⟩
  · exact .inl h
  · right
    rw [← e]
    exact List.fst_mem_of_mem_zipIdx hq
theorem posW_mem : ∀ (p : Nat) (W : List Sec) (x : Int × Sec), x ∈ posW p W → ∃ j, ∃ h : j < W.length, x = (((p + j : Nat) : Int), W[j])
  | p, w :: W, x, h => by
    rw [posW] at h
    rcases List.mem_cons.1 h with rfl | h
    · exact ⟨0, by simp, rfl⟩
    · obtain ⟨j, hj, rfl⟩ := posW_mem (p + 1) W x h
      exact ⟨j + 1, by simpa using hj, by simp [Nat.add_assoc, Nat.add_comm 1]⟩
theorem recS_get {e l n : Nat} {b : List UInt8} {j : Nat} (h : j < (recS e l n b 0).length) : (recS e l n b 0)[j] = secK e l n b j := by
  simp [recS]
theorem recSs_get {e l : Nat} : ∀ (bs : List (List UInt8)) (n j : Nat) (h : j < (recSs e l n bs).length), ∃ m b k, k < needN b.length ∧ m + k = n + j ∧ (recSs e l n bs)[j] = secK e l m b k
  | [], _, _, h => absurd h (by simp [recSs])
  | b :: bs, n, j, h => by
    simp only [recSs]
    by_cases hj : j < (recS e l n b 0).length
    · rw [List.getElem_append_left hj]
      exact ⟨n, b, j, by rw [recS_length] at hj; omega, rfl, recS_get hj⟩
    · simp only [recSs, List.length_append] at h
      obtain ⟨m, c, k, h1, h2, h3⟩ := recSs_get (e := e) (l := l) bs (n + needN b.length) (j - (recS e l n b 0).length) (by omega)
      rw [List.getElem_append_right (by omega)]
      exact ⟨m, c, k, h1, by rw [recS_length] at hj h2; omega, h3⟩
theorem secK_good {ep li : Nat} (he1 : 1 ≤ ep) (he2 : ep ≤ 1073741824) (hl1 : 1 ≤ li) (hl2 : li ≤ 1073741824) {half a m k : Nat} {b : List UInt8} (hk : k < needN b.length) (h : m + k < half) : GoodSec half ep li (a * half + (m + k)) (secK ep li m b k) := by
  have hs := secK_is ep li m b k he1 he2 hl1 hl2 hk
  refine ⟨secK_length _ _ _ _ _, .inr ⟨?_, by rw [hs.li]; exact Nat.le_refl _, by rw [hs.ep]; exact Nat.le_refl _⟩⟩
  rw [show (a * half + (m + k)) % half = m + k by rw [Nat.mul_comm, Nat.mul_add_mod, Nat.mod_eq_of_lt h]]
  exact hs.ok

/-- The area of a disk. -/
def areaOf (V : List Sec) (half ar : Nat) : List Sec := (V.drop (ar * half)).take half
/-- The life of a sector of a row, or none. -/
def AliveX (l : Nat) (X : List Sec) : Prop := l = 0 ∨ ∃ k, ∃ h : k < X.length, readOk X[k] k = true ∧ mLi X[k] = l

/-- A journal's disk: the records that are safe lie in X. -/
structure Inv (half : Nat) (S : List Sec) (P : List (Int × Sec)) (ar ep li en : Nat) (recs : List (List UInt8)) (safe : Nat) (L X T R : List Sec) (l0 : Nat) : Prop where
  split : S = L ++ (X ++ (T ++ R))
  hL : L.length = ar * half
  hXT : X.length + T.length = half
  hS : 2 * half ≤ S.length
  hh : 2 ≤ half
  har : ar ≤ 1
  he1 : 1 ≤ ep
  he2 : ep ≤ 1073741824
  hl1 : 1 ≤ li
  hl2 : li ≤ 1073741824
  hsafe : 1 ≤ safe
  hsafe2 : safe ≤ recs.length
  head : ∃ s r, X = s :: r ∧ mEp s = ep
  runs : ∀ Y rc, scanGo ep (X ++ Y) 0 true 0 [] rc 0 = scanGo ep Y X.length true l0 [] (rc ++ recs.take safe) X.length
  hl0 : l0 ≤ li
  alive : AliveX l0 X
  stops : reads ep T X.length true l0 = false
  stale : Stale ep li T X.length
  pend : P = posW (ar * half + X.length) (recSs ep li X.length (recs.drop safe))
  hen : en = X.length + (recSs ep li X.length (recs.drop safe)).length
  hen2 : en ≤ half
  good : ∀ k s, S[k]? = some s → k < 2 * half → GoodSec half ep li k s
  other : mEp ((S.drop ((1 - ar) * half)).headD []) < ep

theorem stale_of {ep li : Nat} : ∀ (T : List Sec) (i : Nat), (∀ k (h : k < T.length), readOk T[k] (i + k) = true → mEp T[k] = ep → mLi T[k] < li) → Stale ep li T i
  | [], _, _ => trivial
  | t :: r, i, h => ⟨h 0 (by simp), stale_of r (i + 1) fun k hk h1 h2 => by
      have := h (k + 1) (by simpa using hk)
      simp only [List.getElem_cons_succ] at this
      exact this (by rw [show i + (k + 1) = i + 1 + k by omega]; exact h1) h2⟩
theorem stale_drop {ep li : Nat} : ∀ {T : List Sec} {i : Nat} (m : Nat), Stale ep li T i → Stale ep li (T.drop m) (i + m)
  | _, _, 0, h => h
  | [], _, m + 1, _ => trivial
  | t :: r, i, m + 1, h => by
    rw [List.drop_succ_cons, show i + (m + 1) = i + 1 + m by omega]
    exact stale_drop m h.2
theorem stale_mono {ep li li' : Nat} (hl : li ≤ li') : ∀ {T : List Sec} {i : Nat}, Stale ep li T i → Stale ep li' T i
  | [], _, _ => trivial
  | t :: r, i, h => ⟨fun h1 h2 => by have := h.1 h1 h2; omega, stale_mono hl h.2⟩

section
variable {half : Nat} {S : List Sec} {P : List (Int × Sec)} {ar ep li en : Nat} {recs : List (List UInt8)} {safe : Nat} {L X T R : List Sec} {l0 : Nat}
theorem Inv.area (h : Inv half S P ar ep li en recs safe L X T R l0) (T' : List Sec) (hT : T'.length = T.length) : areaOf (L ++ (X ++ (T' ++ R))) half ar = X ++ T' := by
  unfold areaOf
  rw [← h.hL, List.drop_left, ← List.append_assoc]
  exact List.take_left' (by rw [List.length_append, hT, h.hXT])
theorem Inv.scan (h : Inv half S P ar ep li en recs safe L X T R l0) (T' : List Sec) (hT : T'.length = T.length) : scanEp (areaOf (L ++ (X ++ (T' ++ R))) half ar) = ep := by
  rw [h.area T' hT]
  obtain ⟨s, r, rfl, he⟩ := h.head
  exact he
/-- What lies in the other area does not turn. -/
theorem Inv.otherHead (h : Inv half S P ar ep li en recs safe L X T R l0) (T' : List Sec) (hT : T'.length = T.length) :
    ((L ++ (X ++ (T' ++ R))).drop ((1 - ar) * half)).headD [] = (S.drop ((1 - ar) * half)).headD [] := by
  have h1 := h.har
  have h2 := h.hL
  have h3 := h.hXT
  rw [h.split]
  rcases Nat.lt_or_ge ar 1 with h0 | h0
  · have : ar = 0 := by omega
    subst this
    have : L = [] := List.length_eq_zero_iff.1 (by omega)
    subst this
    rw [List.nil_append, List.nil_append, ← List.append_assoc, ← List.append_assoc, List.drop_left' (by simp; omega), List.drop_left' (by simp; omega)]
  · have : ar = 1 := by omega
    subst this
    have hh := h.hh
    cases L with
    | nil => simp at h2; omega
    | cons s r => simp

/-- Behind a crash and an opening. -/
theorem Inv.crash (h : Inv half S P ar ep li en recs safe L X T R l0) (M : List Bool) (hhalf : half = S.length / 2) :
    ∃ k en' X' Z l1, safe ≤ k ∧ k ≤ recs.length ∧ (M = [] → k = recs.length ∧ en' = en) ∧ (lives (crash S P M) half).1 ≤ li ∧
      scanA (areaOf (crash S P M) half ar) = (recs.take k, en') ∧ scanEp (areaOf (crash S P M) half ar) = ep ∧ scanEp (areaOf (crash S P M) half (1 - ar)) < ep ∧
      (∀ li', (lives (crash S P M) half).1 < li' → li' ≤ 1073741824 → Inv half (crash S P M) [] ar ep li' en' (recs.take k) k L X' Z R l1) ∧
      (M = [] → Inv half (crash S P M) [] ar ep li en (recs.take k) k L X' Z R l1) := by
  have hW : (recSs ep li X.length (recs.drop safe)).length ≤ T.length := by have := h.hen; have := h.hen2; have := h.hXT; omega
  obtain ⟨T', hm, hc, hall⟩ := crash_row M (L ++ X) T R (recSs ep li X.length (recs.drop safe)) hW
  rw [List.length_append, h.hL, ← h.pend, List.append_assoc, List.append_assoc, ← h.split] at hc
  have hT' := mix_length hm
  have hV : ∀ k s, (Go.Proofs.Ytmhhfhmpdpgmbaa.crash S P M)[k]? = some s → k < 2 * half → GoodSec half ep li k s := by
    intro k s hk hlt
    rcases crash_get hk with hk | hk
    · exact h.good k s hk hlt
    · rw [h.pend] at hk
      obtain ⟨j, hj, hx⟩ := posW_mem _ _ _ hk
      obtain ⟨m, b, q, h1, h2, h3⟩ := recSs_get (e := ep) (l := li) _ _ j hj
      injection hx with hx1 hx2
      rw [hx2, h3, show k = ar * half + (m + q) by omega]
      exact secK_good h.he1 h.he2 h.hl1 h.hl2 h1 (by have := h.hen; have := h.hen2; omega)
  have hlen : (Go.Proofs.Ytmhhfhmpdpgmbaa.crash S P M).length = S.length := crash_length _ _ _
  have hlv : (lives (Go.Proofs.Ytmhhfhmpdpgmbaa.crash S P M) half).1 ≤ li := by
    refine (lifeGo_spec half _ 0 (0, 0)).2.2.2 li (Nat.zero_le _) fun k hk hok => ?_
    rw [List.length_take] at hk
    rw [List.getElem_take] at hok ⊢
    rw [Nat.zero_add] at hok
    have hg := hV k _ (List.getElem?_eq_getElem (by omega)) (by omega)
    rw [← mLi_ok hok]
    rcases hg.2 with hz | ⟨_, hz, _⟩
    · rw [hz, zero_ok] at hok; cases hok
    · exact hz
  have hlv2 : ∀ k s, (Go.Proofs.Ytmhhfhmpdpgmbaa.crash S P M)[k]? = some s → k < 2 * half → readOk s (k % half) = true → mLi s ≤ (lives (Go.Proofs.Ytmhhfhmpdpgmbaa.crash S P M) half).1 := by
    intro k s hk hlt hok
    have hkl : k < (Go.Proofs.Ytmhhfhmpdpgmbaa.crash S P M).length := (List.getElem?_eq_some_iff.1 hk).1
    have hks : (Go.Proofs.Ytmhhfhmpdpgmbaa.crash S P M)[k] = s := (List.getElem?_eq_some_iff.1 hk).2
    have := (lifeGo_spec half ((Go.Proofs.Ytmhhfhmpdpgmbaa.crash S P M).take (2 * half)) 0 (0, 0)).2.2.1 k (by rw [List.length_take]; omega)
    rw [List.getElem_take, hks, Nat.zero_add] at this
    rw [mLi_ok hok]
    exact this hok
  obtain ⟨k, l1, Z, hk, hTZ, hl1, hl1', hst, hrun⟩ : ∃ k l1 Z, k ≤ (recs.drop safe).length ∧ T' = recSs ep li X.length ((recs.drop safe).take k) ++ Z ∧ l1 ≤ li ∧ (l1 = l0 ∨ (l1 = li ∧ 0 < k)) ∧
      (reads ep Z (X.length + (recSs ep li X.length ((recs.drop safe).take k)).length) true l1 = false ∧ (M = [] → k = (recs.drop safe).length ∧ Z = T.drop (recSs ep li X.length (recs.drop safe)).length)) ∧
      ∀ Y rc, scanGo ep (recSs ep li X.length ((recs.drop safe).take k) ++ Y) X.length true l0 [] rc X.length =
        scanGo ep Y (X.length + (recSs ep li X.length ((recs.drop safe).take k)).length) true l1 [] (rc ++ (recs.drop safe).take k) (X.length + (recSs ep li X.length ((recs.drop safe).take k)).length) := by
    by_cases hM : M = []
    · obtain ⟨l1, h1, h2, h3, h4⟩ := behind_all h.he1 h.he2 h.hl1 h.hl2 (recs.drop safe) X.length l0 h.hl0
      have ht : (recs.drop safe).take (recs.drop safe).length = recs.drop safe := List.take_of_length_le (Nat.le_refl _)
      refine ⟨(recs.drop safe).length, l1, T.drop (recSs ep li X.length (recs.drop safe)).length, Nat.le_refl _, by rw [ht]; exact hall hM, h1, h2.imp id (fun h => ⟨h.1, List.length_pos_iff.2 h.2⟩), ⟨?_, fun _ => ⟨rfl, rfl⟩⟩, by rw [ht]; exact h4⟩
      rw [ht]
      rcases h2 with h2 | ⟨h2, _⟩
      · by_cases hb : recs.drop safe = []
        · rw [hb, h2]
          simpa [recSs] using h.stops
        · rw [h3 hb]
          exact stale_reads (stale_drop _ h.stale) true
      · rw [h2]
        exact stale_reads (stale_drop _ h.stale) true
    · obtain ⟨k, l1, Z, h1, h2, h3, h4, h5, h6⟩ := behind h.he1 h.he2 h.hl1 h.hl2 (recs.drop safe) X.length l0 T T' hm h.stale h.stops h.hl0
      exact ⟨k, l1, Z, h1, h2, h3, h4, ⟨h5, fun h => absurd h hM⟩, h6⟩
  have hrl : (recs.drop safe).length = recs.length - safe := List.length_drop
  have htk : recs.take safe ++ (recs.drop safe).take k = recs.take (safe + k) := by rw [List.take_add]
  obtain ⟨en', hen'⟩ : ∃ en', en' = X.length + (recSs ep li X.length ((recs.drop safe).take k)).length := ⟨_, rfl⟩
  rw [← hen'] at hst hrun
  have hXl : (X ++ recSs ep li X.length ((recs.drop safe).take k)).length = en' := by rw [List.length_append, hen']
  have hruns : ∀ Y rc, scanGo ep ((X ++ recSs ep li X.length ((recs.drop safe).take k)) ++ Y) 0 true 0 [] rc 0 = scanGo ep Y en' true l1 [] (rc ++ recs.take (safe + k)) en' := fun Y rc => by
    rw [List.append_assoc, h.runs, hrun, List.append_assoc, htk]
  have hen2 : en' + Z.length = half := by
    have h1 := congrArg List.length hTZ
    have h2 := h.hXT
    rw [List.length_append] at h1
    omega
  have harea : areaOf (Go.Proofs.Ytmhhfhmpdpgmbaa.crash S P M) half ar = X ++ T' := by rw [hc]; exact h.area T' hT'
  have hsplit : Go.Proofs.Ytmhhfhmpdpgmbaa.crash S P M = L ++ ((X ++ recSs ep li X.length ((recs.drop safe).take k)) ++ (Z ++ R)) := by
    rw [hc, hTZ]
    simp only [List.append_assoc]
  have hoth : mEp (((Go.Proofs.Ytmhhfhmpdpgmbaa.crash S P M).drop ((1 - ar) * half)).headD []) < ep := by rw [hc, h.otherHead T' hT']; exact h.other
  have hZat : ∀ j (hj : j < Z.length), (Go.Proofs.Ytmhhfhmpdpgmbaa.crash S P M)[ar * half + (en' + j)]? = some Z[j] := by
    intro j hj
    rw [hsplit, List.getElem?_append_right (by rw [h.hL]; omega), h.hL, List.getElem?_append_right (by rw [hXl]; omega), hXl, List.getElem?_append_left (by omega), List.getElem?_eq_getElem (by omega)]
    congr 2
    omega
  have hmod : ∀ j, j < half → (ar * half + j) % half = j := fun j hj => by rw [Nat.mul_comm, Nat.mul_add_mod, Nat.mod_eq_of_lt hj]
  have har2 : ar * half + half ≤ 2 * half := by
    have := h.har
    rcases Nat.lt_or_ge ar 1 with h0 | h0
    · rw [show ar = 0 by omega]; omega
    · rw [show ar = 1 by omega]; omega
  have hal : AliveX l1 (X ++ recSs ep li X.length ((recs.drop safe).take k)) := by
    rcases hl1' with e | ⟨e, hk0⟩
    · rw [e]
      rcases h.alive with ha | ⟨q, hq, h1, h2⟩
      · exact .inl ha
      · refine .inr ⟨q, by rw [List.length_append]; omega, ?_⟩
        rw [List.getElem_append_left hq]
        exact ⟨h1, h2⟩
    · rw [e]
      right
      have hW0 : 0 < (recSs ep li X.length ((recs.drop safe).take k)).length := by
        cases hr : (recs.drop safe).take k with
        | nil => simp [List.take_eq_nil_iff] at hr; omega
        | cons b bs => rw [recSs, List.length_append, recS_length]; have := needN_pos b.length; omega
      refine ⟨X.length, by rw [List.length_append]; omega, ?_⟩
      rw [List.getElem_append_right (Nat.le_refl _)]
      obtain ⟨m, b, q, h1, h2, h3⟩ := recSs_get (e := ep) (l := li) ((recs.drop safe).take k) X.length (X.length - X.length) (by omega)
      rw [h3]
      have hs := secK_is ep li m b q h.he1 h.he2 h.hl1 h.hl2 h1
      exact ⟨by rw [show X.length = m + q by omega]; exact hs.ok, hs.li⟩
  have hXget : ∀ q (hq : q < (X ++ recSs ep li X.length ((recs.drop safe).take k)).length), (Go.Proofs.Ytmhhfhmpdpgmbaa.crash S P M)[ar * half + q]? = some (X ++ recSs ep li X.length ((recs.drop safe).take k))[q] := by
    intro q hq
    rw [hsplit, List.getElem?_append_right (by rw [h.hL]; omega), h.hL, List.getElem?_append_left (by omega), List.getElem?_eq_getElem (by omega)]
    congr 2
    omega
  have hdrop : (recs.take (safe + k)).drop (safe + k) = [] := List.drop_of_length_le (by rw [List.length_take]; omega)
  have hhead : ∃ s r, X ++ recSs ep li X.length ((recs.drop safe).take k) = s :: r ∧ mEp s = ep := by
    obtain ⟨s, r, hx, he⟩ := h.head
    exact ⟨s, r ++ recSs ep li X.length ((recs.drop safe).take k), by rw [hx]; rfl, he⟩
  refine ⟨safe + k, en', X ++ recSs ep li X.length ((recs.drop safe).take k), Z, l1, by omega, by have := h.hsafe2; omega, fun hM => ?_, hlv, ?_, ?_, ?_, fun li' hli hli2 => ?_, fun hM => ?_⟩
  · have h1 := (hst.2 hM).1
    refine ⟨by have := h.hsafe2; omega, ?_⟩
    rw [hen', h1, List.take_of_length_le (Nat.le_refl _), h.hen]
  · have he : scanEp (X ++ T') = ep := by
      obtain ⟨s, r, hx, he⟩ := h.head
      rw [hx]
      exact he
    rw [harea, scanA, he, hTZ, ← List.append_assoc, hruns, reads_no _ _ _ _ _ _ _ _ hst.1, List.nil_append]
  · rw [hc]; exact h.scan T' hT'
  · unfold scanEp areaOf
    rw [show (((Go.Proofs.Ytmhhfhmpdpgmbaa.crash S P M).drop ((1 - ar) * half)).take half).headD [] = ((Go.Proofs.Ytmhhfhmpdpgmbaa.crash S P M).drop ((1 - ar) * half)).headD [] by
      have hh := h.hh
      cases (Go.Proofs.Ytmhhfhmpdpgmbaa.crash S P M).drop ((1 - ar) * half) with
      | nil => simp
      | cons s r => rw [show half = (half - 1) + 1 by omega]; rfl]
    exact hoth
  · have hl1le : l1 ≤ (lives (Go.Proofs.Ytmhhfhmpdpgmbaa.crash S P M) half).1 := by
      rcases hal with e | ⟨q, hq, h1, h2⟩
      · omega
      · rw [← h2]
        refine hlv2 (ar * half + q) _ (hXget q hq) (by omega) ?_
        rw [hmod q (by omega)]
        exact h1
    exact {
      split := hsplit, hL := h.hL, hXT := by rw [hXl]; exact hen2, hS := by rw [hlen]; exact h.hS, hh := h.hh, har := h.har, he1 := h.he1, he2 := h.he2, hl1 := by omega, hl2 := hli2
      hsafe := by have := h.hsafe; omega
      hsafe2 := by rw [List.length_take]; have := h.hsafe2; omega
      head := hhead
      runs := fun Y rc => by rw [hruns, hXl, List.take_take, Nat.min_self]
      hl0 := by omega
      alive := hal
      stops := by rw [hXl]; exact hst.1
      stale := by
        rw [hXl]
        refine stale_of _ _ fun j hj h1 h2 => ?_
        have := hlv2 _ _ (hZat j hj) (by omega) (by rw [hmod _ (by omega)]; exact h1)
        omega
      pend := by rw [hdrop]; rfl
      hen := by rw [hdrop, hXl]; rfl
      hen2 := by omega
      good := fun q s hq hlt => by
        have hg := hV q s hq hlt
        refine ⟨hg.1, hg.2.imp id fun ⟨a, _, c⟩ => ⟨a, ?_, c⟩⟩
        have := hlv2 q s hq hlt a
        omega
      other := hoth }
  · obtain ⟨hk2, hZ⟩ := hst.2 hM
    exact {
      split := hsplit, hL := h.hL, hXT := by rw [hXl]; exact hen2, hS := by rw [hlen]; exact h.hS, hh := h.hh, har := h.har, he1 := h.he1, he2 := h.he2, hl1 := h.hl1, hl2 := h.hl2
      hsafe := by have := h.hsafe; omega
      hsafe2 := by rw [List.length_take]; have := h.hsafe2; omega
      head := hhead
      runs := fun Y rc => by rw [hruns, hXl, List.take_take, Nat.min_self]
      hl0 := hl1
      alive := hal
      stops := by rw [hXl]; exact hst.1
      stale := by
        rw [hXl, hZ, hen', hk2, List.take_of_length_le (Nat.le_refl _)]
        exact stale_drop _ h.stale
      pend := by rw [hdrop]; rfl
      hen := by
        rw [hdrop, hXl]
        rw [hen', hk2, List.take_of_length_le (Nat.le_refl _), h.hen]
        rfl
      hen2 := h.hen2
      good := hV
      other := hoth }
end
end Go.Proofs.Ytmhhfhmpdpgmbaa
