/- The plain law of the journal: what is read back behind a crash. No walk. -/
import Derived.Test.YtmhhfhmpdpgmbaaRight
namespace Go.Proofs.Ytmhhfhmpdpgmbaa

theorem be_be4 (n : Nat) (h : n < 4294967296) : be (be4 n) = n := by
  simp [be, be4]
  omega

theorem flag_bits (p q : Prop) [Decidable p] [Decidable q] : (((if p then 1 else 0) ||| (if q then 2 else 0)) &&& 1 ≠ 0 ↔ p) ∧ (((if p then 1 else 0) ||| (if q then 2 else 0)) &&& 2 ≠ 0 ↔ q) := by
  by_cases h1 : p <;> by_cases h2 : q <;> simp [h1, h2]
theorem flag_first (b : List UInt8) (k : Nat) : (flagK b k &&& 1 ≠ 0) ↔ k = 0 := (flag_bits (k = 0) (k + 1 = needN b.length)).1
theorem flag_last (b : List UInt8) (k : Nat) : (flagK b k &&& 2 ≠ 0) ↔ k + 1 = needN b.length := (flag_bits (k = 0) (k + 1 = needN b.length)).2
theorem flag_lt (b : List UInt8) (k : Nat) : flagK b k ≤ 3 := by
  unfold flagK
  split <;> split <;> decide
theorem pay_full (b : List UInt8) (k : Nat) (h : k + 1 < needN b.length) : (payK b k).length = 18 := by
  unfold payK
  unfold needN at h
  rw [List.length_take, List.length_drop]
  omega

section
variable (e l n f : Nat) (p : List UInt8)
theorem sec_ep (he : e < 4294967296) : sEpoch (sectorOf e l n f p) = e := by
  show be (be4 e) = e
  exact be_be4 e he
theorem sec_li (hl : l < 4294967296) : sLife (sectorOf e l n f p) = l := by
  show be (be4 l) = l
  exact be_be4 l hl
theorem sec_fl (hf : f < 256) : sFlags (sectorOf e l n f p) = f := by
  show (UInt8.ofNat f).toNat = f
  simp
  omega
theorem sec_len (hp : p.length ≤ 18) : sLen (sectorOf e l n f p) = p.length := by
  show (UInt8.ofNat p.length).toNat = p.length
  simp
  omega
theorem sec_pay (hp : p.length ≤ 18) : sPay (sectorOf e l n f p) = p := by
  unfold sPay
  rw [sec_len e l n f p hp]
  show (p ++ List.replicate (18 - p.length) 0).take p.length = p
  simp
end

theorem secK_bad (e l n : Nat) (b : List UInt8) (k : Nat) (he1 : 1 ≤ e) (he2 : e ≤ 1073741824) (hl1 : 1 ≤ l) (hl2 : l ≤ 1073741824) (hk : k < needN b.length) : sBad (secK e l n b k) = false := by
  have hp := payK_length b k
  have hf := flag_lt b k
  unfold sBad secK
  rw [sec_ep _ _ _ _ _ (by omega), sec_li _ _ _ _ _ (by omega), sec_fl _ _ _ _ _ (by omega), sec_len _ _ _ _ _ hp]
  unfold badHead
  simp only [Bool.or_eq_false_iff, decide_eq_false_iff_not, Bool.and_eq_false_iff]
  refine ⟨⟨⟨⟨by omega, by omega⟩, ?_⟩, by omega⟩, by omega⟩
  by_cases h : k + 1 = needN b.length
  · exact .inl ((flag_last b k).2 h)
  · right
    have := pay_full b k (by omega)
    omega

structure SecIs (s : Sec) (i e l f : Nat) (p : List UInt8) : Prop where
  ok : readOk s i = true
  ep : mEp s = e
  li : mLi s = l
  fl : mFl s = f
  pay : readPay s = p
theorem secK_is (e l n : Nat) (b : List UInt8) (k : Nat) (he1 : 1 ≤ e) (he2 : e ≤ 1073741824) (hl1 : 1 ≤ l) (hl2 : l ≤ 1073741824) (hk : k < needN b.length) :
    SecIs (secK e l n b k) (n + k) e l (flagK b k) (payK b k) := by
  have hb := secK_bad e l n b k he1 he2 hl1 hl2 hk
  have hp := payK_length b k
  have hf := flag_lt b k
  have h1 : sEpoch (secK e l n b k) = e := sec_ep _ _ _ _ _ (by omega)
  have h2 : sLife (secK e l n b k) = l := sec_li _ _ _ _ _ (by omega)
  have h3 : sFlags (secK e l n b k) = flagK b k := sec_fl _ _ _ _ _ (by omega)
  have h4 : sPay (secK e l n b k) = payK b k := sec_pay _ _ _ _ _ hp
  have hok : readOk (secK e l n b k) (n + k) = true := by
    unfold readOk
    rw [hb, h1, h2, h3, h4]
    simp [secK]
  exact ⟨hok, (mEp_ok hok).trans h1, (mLi_ok hok).trans h2, (mFl_ok hok).trans h3, (readPay_ok hok).trans h4⟩

theorem zero_bad : sBad zeroSec = true := by decide
theorem zero_ok (i : Nat) : readOk zeroSec i = false := by unfold readOk; rw [zero_bad]; rfl
theorem zero_ep : mEp zeroSec = 0 := by unfold mEp; rw [zero_bad]; rfl

/-- The sectors of a record from the k-th on. -/
def recS (e l n : Nat) (b : List UInt8) (k : Nat) : List Sec := (List.range' k (needN b.length - k)).map (secK e l n b)
section
variable {e l n : Nat} {b : List UInt8} {k : Nat}
theorem recS_cons (hk : k < needN b.length) : recS e l n b k = secK e l n b k :: recS e l n b (k + 1) := by
  unfold recS
  rw [show needN b.length - k = (needN b.length - (k + 1)) + 1 by omega, List.range'_succ]
  rfl
theorem recS_nil (hk : needN b.length ≤ k) : recS e l n b k = [] := by
  unfold recS
  rw [show needN b.length - k = 0 by omega]
  rfl
theorem recS_length : (recS e l n b k).length = needN b.length - k := by simp [recS]
end
/-- Do sectors complete a record? -/
def reads (ep : Nat) : List Sec → Nat → Bool → Nat → Bool
  | [], _, _, _ => false
  | t :: r, i, bg, l => goesOn t i ep l bg && (decide (mFl t &&& 2 ≠ 0) || reads ep r (i + 1) false (mLi t))
theorem reads_no (ep : Nat) : ∀ (T : List Sec) (i : Nat) (bg : Bool) (l : Nat) (part : List UInt8) (recs : List (List UInt8)) (en : Nat), reads ep T i bg l = false → scanGo ep T i bg l part recs en = (recs, en)
  | [], _, _, _, _, _, _, _ => rfl
  | t :: r, i, bg, l, part, recs, en, h => by
    rw [reads] at h
    rw [scanGo]
    by_cases hg : goesOn t i ep l bg = true
    · rw [hg, Bool.true_and, Bool.or_eq_false_iff] at h
      rw [if_pos hg, if_neg (of_decide_eq_false h.1)]
      exact reads_no ep r (i + 1) false (mLi t) _ recs en h.2
    · rw [if_neg hg]

/-- Sectors of which some were overwritten. -/
inductive Mix : List Sec → List Sec → List Sec → Prop
  | done (T : List Sec) : Mix T [] T
  | keep {t : Sec} {T : List Sec} {w : Sec} {W T' : List Sec} : Mix T W T' → Mix (t :: T) (w :: W) (t :: T')
  | put {t : Sec} {T : List Sec} {w : Sec} {W T' : List Sec} : Mix T W T' → Mix (t :: T) (w :: W) (w :: T')

/-- Sectors of the epoch are of an elder life. -/
def Stale (ep li : Nat) : List Sec → Nat → Prop
  | [], _ => True
  | t :: r, i => (readOk t i = true → mEp t = ep → mLi t < li) ∧ Stale ep li r (i + 1)
theorem goes_parts {s : Sec} {i ep life : Nat} {bg : Bool} (h : goesOn s i ep life bg = true) : readOk s i = true ∧ mEp s = ep ∧ life ≤ mLi s ∧ decide (mFl s &&& 1 ≠ 0) = bg ∧ (bg = true ∨ mLi s = life) := by
  unfold goesOn at h
  simp only [Bool.and_eq_true, decide_eq_true_eq, beq_iff_eq, Bool.or_eq_true] at h
  exact ⟨h.1.1.1.1, h.1.1.1.2, h.1.1.2, h.1.2, h.2⟩
theorem stale_reads {ep li : Nat} : ∀ {T : List Sec} {i : Nat} (_ : Stale ep li T i) (bg : Bool), reads ep T i bg li = false
  | [], _, _, _ => rfl
  | t :: r, i, h, bg => by
    rw [reads]
    by_cases hg : goesOn t i ep li bg = true
    · obtain ⟨h1, h2, h3, _, _⟩ := goes_parts hg
      have := h.1 h1 h2
      omega
    · rw [eq_false_of_ne_true hg]; rfl
theorem mix_mid {ep li : Nat} : ∀ {T W T' : List Sec} (_ : Mix T W T') (i l : Nat) (_ : reads ep T i false l = false) (_ : ∀ w ∈ W, mLi w = li) (_ : l ≠ li), reads ep T' i false l = false
  | _, _, _, .done T, _, _, h, _, _ => h
  | _, _, _, .keep (t := t) (T := T) (w := w) (W := W) (T' := T') hm, i, l, h, hw, hl => by
    rw [reads] at h ⊢
    by_cases hg : goesOn t i ep l false = true
    · rw [hg, Bool.true_and, Bool.or_eq_false_iff] at h
      obtain ⟨_, _, _, _, h5⟩ := goes_parts hg
      have h6 : mLi t = l := by rcases h5 with h5 | h5; cases h5; exact h5
      rw [hg, h.1, h6, mix_mid hm (i + 1) l (by rw [← h6]; exact h.2) (fun w h => hw w (List.mem_cons_of_mem _ h)) hl]
      rfl
    · rw [eq_false_of_ne_true hg]; rfl
  | _, _, _, .put (t := t) (T := T) (w := w) (W := W) (T' := T') hm, i, l, h, hw, hl => by
    rw [reads]
    by_cases hg : goesOn w i ep l false = true
    · obtain ⟨_, _, _, _, h5⟩ := goes_parts hg
      have h6 : mLi w = l := by rcases h5 with h5 | h5; cases h5; exact h5
      have := hw w (List.mem_cons_self ..)
      omega
    · rw [eq_false_of_ne_true hg]; rfl

section
variable {ep li n : Nat} {b : List UInt8}
theorem goes_secK (he1 : 1 ≤ ep) (he2 : ep ≤ 1073741824) (hl1 : 1 ≤ li) (hl2 : li ≤ 1073741824) {k : Nat} (hk : k < needN b.length) (l : Nat) (bg : Bool) (hl : l ≤ li) (hb : bg = decide (k = 0)) (h : bg = true ∨ l = li) :
    goesOn (secK ep li n b k) (n + k) ep l bg = true := by
  have hs := secK_is ep li n b k he1 he2 hl1 hl2 hk
  unfold goesOn
  rw [hs.ok, hs.ep, hs.li, hs.fl, show decide (flagK b k &&& 1 ≠ 0) = decide (k = 0) from by simp only [flag_first], ← hb]
  simp only [decide_true, Bool.and_self, beq_self_eq_true, Bool.and_true, Bool.true_and, Bool.and_eq_true, decide_eq_true_eq, Bool.or_eq_true]
  exact ⟨hl, h.imp (fun h => h) (fun h => h.symm)⟩

/-- A record behind its first sector, of which some sectors may be lost. -/
theorem mix_rec (he1 : 1 ≤ ep) (he2 : ep ≤ 1073741824) (hl1 : 1 ≤ li) (hl2 : li ≤ 1073741824) {Wr : List Sec} : ∀ (m k : Nat) (T T' : List Sec) (_ : k + m = needN b.length) (_ : 0 < k) (_ : Mix T (recS ep li n b k ++ Wr) T') (_ : Stale ep li T (n + k)),
    (∃ T2 T2', T' = recS ep li n b k ++ T2' ∧ Mix T2 Wr T2' ∧ T2 = T.drop m ∧ Stale ep li T2 (n + needN b.length)) ∨ (0 < m ∧ reads ep T' (n + k) false li = false)
  | 0, k, T, T', hk, h0, hm, hs => by
    rw [recS_nil (by omega)] at hm ⊢
    exact .inl ⟨T, T', rfl, hm, rfl, by rw [show n + needN b.length = n + k by omega]; exact hs⟩
  | m + 1, k, T, T', hk, h0, hm, hs => by
    rw [recS_cons (show k < needN b.length by omega)] at hm ⊢
    rw [List.cons_append] at hm
    cases hm with
    | keep hm =>
      rename_i t T T'
      right
      refine ⟨by omega, ?_⟩
      rw [reads]
      by_cases hg : goesOn t (n + k) ep li false = true
      · obtain ⟨h1, h2, h3, _, _⟩ := goes_parts hg
        have := hs.1 h1 h2
        omega
      · rw [eq_false_of_ne_true hg]; rfl
    | put hm =>
      rename_i t T T'
      rcases mix_rec he1 he2 hl1 hl2 m (k + 1) T T' (by omega) (by omega) hm hs.2 with ⟨T2, T2', rfl, h2, h3, h4⟩ | ⟨h0, h⟩
      · exact .inl ⟨T2, T2', rfl, h2, h3, h4⟩
      · right
        refine ⟨by omega, ?_⟩
        have hs := secK_is ep li n b k he1 he2 hl1 hl2 (show k < needN b.length by omega)
        rw [reads, hs.fl, hs.li, show decide (flagK b k &&& 2 ≠ 0) = false from by simp only [flag_last]; exact decide_eq_false (by omega), Nat.add_assoc, h]
        simp
theorem mix_first (he1 : 1 ≤ ep) (he2 : ep ≤ 1073741824) (hl1 : 1 ≤ li) (hl2 : li ≤ 1073741824) {Wr T T' : List Sec} {l : Nat} (hm : Mix T (recS ep li n b 0 ++ Wr) T') (hs : Stale ep li T n) (hr : reads ep T n true l = false) (hw : ∀ w ∈ Wr, mLi w = li) :
    (∃ T2 T2', T' = recS ep li n b 0 ++ T2' ∧ Mix T2 Wr T2' ∧ T2 = T.drop (needN b.length) ∧ Stale ep li T2 (n + needN b.length)) ∨ reads ep T' n true l = false := by
  have h0 := needN_pos b.length
  rw [recS_cons h0] at hm ⊢
  rw [List.cons_append] at hm
  cases hm with
  | keep hm =>
    rename_i t T T'
    right
    rw [reads] at hr ⊢
    by_cases hg : goesOn t n ep l true = true
    · rw [hg, Bool.true_and, Bool.or_eq_false_iff] at hr
      obtain ⟨h1, h2, h3, _, _⟩ := goes_parts hg
      have h5 := hs.1 h1 h2
      rw [hg, hr.1, mix_mid (li := li) hm (n + 1) (mLi t) hr.2 (fun w h => ?_) (by omega)]
      · rfl
      · rcases List.mem_append.1 h with h | h
        · simp only [recS, List.mem_map, List.mem_range'_1] at h
          obtain ⟨k, hk, rfl⟩ := h
          exact (secK_is ep li n b k he1 he2 hl1 hl2 (by omega)).li
        · exact hw w h
    · rw [eq_false_of_ne_true hg]; rfl
  | put hm =>
    rename_i t T T'
    rcases mix_rec he1 he2 hl1 hl2 (needN b.length - 1) 1 T T' (by omega) (by omega) hm hs.2 with ⟨T2, T2', rfl, h2, h3, h4⟩ | ⟨h5, h⟩
    · refine .inl ⟨T2, T2', rfl, h2, ?_, h4⟩
      rw [h3, show needN b.length = (needN b.length - 1) + 1 by omega, List.drop_succ_cons, Nat.add_sub_cancel]
    · right
      have hs := secK_is ep li n b 0 he1 he2 hl1 hl2 h0
      rw [reads, hs.fl, hs.li, show decide (flagK b 0 &&& 2 ≠ 0) = false from by simp only [flag_last]; exact decide_eq_false (by omega), h]
      simp

theorem take_pay (b : List UInt8) (k : Nat) : b.take (18 * k) ++ payK b k = b.take (18 * (k + 1)) := by
  unfold payK
  rw [show 18 * (k + 1) = 18 * k + 18 by omega, List.take_add]
theorem take_all (b : List UInt8) (k : Nat) (h : k + 1 = needN b.length) : b.take (18 * (k + 1)) = b := by
  apply List.take_of_length_le
  unfold needN at h
  omega
/-- A whole record is read. -/
theorem scan_mid (he1 : 1 ≤ ep) (he2 : ep ≤ 1073741824) (hl1 : 1 ≤ li) (hl2 : li ≤ 1073741824) (Y : List Sec) (recs : List (List UInt8)) (en : Nat) : ∀ (m k : Nat) (_ : k + m + 1 = needN b.length) (_ : 0 < k),
    scanGo ep (recS ep li n b k ++ Y) (n + k) false li (b.take (18 * k)) recs en = scanGo ep Y (n + needN b.length) true li [] (recs ++ [b]) (n + needN b.length)
  | 0, k, hk, h0 => by
    have hs := secK_is ep li n b k he1 he2 hl1 hl2 (by omega)
    rw [recS_cons (show k < needN b.length by omega), recS_nil (by omega), List.cons_append, List.nil_append, scanGo, if_pos (goes_secK he1 he2 hl1 hl2 (by omega) _ _ (Nat.le_refl _) (by simp; omega) (.inr rfl)), hs.fl, if_pos ((flag_last b k).2 (by omega)),
      hs.pay, hs.li, take_pay, take_all b k (by omega), Nat.add_assoc, show k + 1 = needN b.length by omega]
  | m + 1, k, hk, h0 => by
    have hs := secK_is ep li n b k he1 he2 hl1 hl2 (by omega)
    rw [recS_cons (show k < needN b.length by omega), List.cons_append, scanGo, if_pos (goes_secK he1 he2 hl1 hl2 (by omega) _ _ (Nat.le_refl _) (by simp; omega) (.inr rfl)), hs.fl, if_neg (by rw [flag_last]; omega),
      hs.pay, hs.li, take_pay, Nat.add_assoc]
    exact scan_mid he1 he2 hl1 hl2 Y recs en m (k + 1) (by omega) (by omega)
theorem scan_rec (he1 : 1 ≤ ep) (he2 : ep ≤ 1073741824) (hl1 : 1 ≤ li) (hl2 : li ≤ 1073741824) (Y : List Sec) (recs : List (List UInt8)) (en l : Nat) (hl : l ≤ li) :
    scanGo ep (recS ep li n b 0 ++ Y) n true l [] recs en = scanGo ep Y (n + needN b.length) true li [] (recs ++ [b]) (n + needN b.length) := by
  have h0 := needN_pos b.length
  have hs := secK_is ep li n b 0 he1 he2 hl1 hl2 h0
  have hp : payK b 0 = b.take (18 * (0 + 1)) := by simp [payK]
  have hg := goes_secK (n := n) (b := b) he1 he2 hl1 hl2 h0 l true hl (by simp) (.inl rfl)
  rw [Nat.add_zero] at hg
  rw [recS_cons h0, List.cons_append, scanGo, if_pos hg, hs.fl, hs.pay, hs.li, hp, List.nil_append]
  by_cases h1 : 0 + 1 = needN b.length
  · rw [if_pos ((flag_last b 0).2 h1), recS_nil (by omega), take_all b 0 h1, ← h1]
    rfl
  · rw [if_neg (by rw [flag_last]; exact h1)]
    exact scan_mid he1 he2 hl1 hl2 Y recs en (needN b.length - 2) 1 (by omega) (by omega)
end
end Go.Proofs.Ytmhhfhmpdpgmbaa
