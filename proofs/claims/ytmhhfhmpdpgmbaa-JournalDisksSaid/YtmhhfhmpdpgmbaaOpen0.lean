/- Open: what it computes. -/
import Derived.Test.YtmhhfhmpdpgmbaaRight
import Derived.Test.YtmhhfhmpdpgmbaaCheck
namespace Go.Proofs.Ytmhhfhmpdpgmbaa
open Go.RowKit

/-- The greatest life and epoch of the sectors that are marked. -/
def lifeGo (half : Nat) : List Sec → Nat → Nat × Nat → Nat × Nat
  | [], _, acc => acc
  | s :: r, i, acc => lifeGo half r (i + 1) (if readOk s (i % half) = true then (max acc.1 (sLife s), max acc.2 (sEpoch s)) else acc)
def lives (V : List Sec) (half : Nat) : Nat × Nat := lifeGo half (V.take (2 * half)) 0 (0, 0)
theorem lifeGo_snoc (half : Nat) : ∀ (l : List Sec) (i : Nat) (acc : Nat × Nat) (s : Sec), lifeGo half (l ++ [s]) i acc = (if readOk s ((i + l.length) % half) = true then (max (lifeGo half l i acc).1 (sLife s), max (lifeGo half l i acc).2 (sEpoch s)) else lifeGo half l i acc)
  | [], i, acc, s => by simp [lifeGo]
  | t :: r, i, acc, s => by
    rw [List.cons_append, lifeGo, lifeGo_snoc half r (i + 1), List.length_cons, lifeGo, show i + 1 + r.length = i + (r.length + 1) by omega]

theorem readOk_le {s : Sec} {i : Nat} (h : readOk s i = true) : sEpoch s ≤ 1073741824 ∧ sLife s ≤ 1073741824 := by
  have h := readOk_bad h
  unfold sBad badHead at h
  simp only [Bool.or_eq_false_iff, decide_eq_false_iff_not] at h
  omega
theorem lifeGo_le (half : Nat) : ∀ (V : List Sec) (i : Nat) (acc : Nat × Nat), acc.1 ≤ 1073741824 → acc.2 ≤ 1073741824 → (lifeGo half V i acc).1 ≤ 1073741824 ∧ (lifeGo half V i acc).2 ≤ 1073741824
  | [], _, _, h1, h2 => ⟨h1, h2⟩
  | s :: r, i, acc, h1, h2 => by
    rw [lifeGo]
    by_cases hs : readOk s (i % half) = true
    · rw [if_pos hs]
      have := readOk_le hs
      exact lifeGo_le half r _ _ (Nat.max_le.2 ⟨h1, this.2⟩) (Nat.max_le.2 ⟨h2, this.1⟩)
    · rw [if_neg hs]
      exact lifeGo_le half r _ _ h1 h2

def OpenPost (B : Nat) (w : World) (d : Nat) (vs vp : Value) (S : List Sec) (P : List (Int × Sec)) (e : Ending) (w' : World) : Prop :=
  if rightB S P = false then e = .returned (.tuple #[.pointer none, .int .i64 2]) ∧ Ext NoS w w'
  else
    let V := crash S P []
    let half := S.length / 2
    let a := V.take half
    let b := (V.drop half).take half
    let li := (lives V half).1 + 1
    let ep := (lives V half).2
    let alive := !((scanA a).1.isEmpty && (scanA b).1.isEmpty)
    if 1073741824 < li ∨ (alive = false ∧ ep = 1073741824) then e = .returned (.tuple #[.pointer none, .int .i64 420]) ∧ Ext NoS w w'
    else if alive = false then ∃ j vr, e = .returned (.tuple #[.pointer (some ⟨j, 0, none⟩), .int .i64 0]) ∧ w.heap.size ≤ j ∧ JAt B w' j d vs (.slice none 0 0) vr (crash S (P ++ recW 0 (ep + 1) li 0 []) []) [] 0 (ep + 1) li 1 [[]] ∧ OwnFr w (.slice none 0 0) vr ∧
      Ext (fun k => k = d ∨ vs.ownBlock = some k ∨ vp.ownBlock = some k) w w'
    else
      let useB := (scanA a).1.isEmpty || (!(scanA b).1.isEmpty && decide (scanEp a < scanEp b))
      let c := if useB then b else a
      ∃ j vr, e = .returned (.tuple #[.pointer (some ⟨j, 0, none⟩), .int .i64 0]) ∧ w.heap.size ≤ j ∧ JAt B w' j d vs vp vr S P (if useB then 1 else 0) (scanEp c) li (scanA c).2 (scanA c).1 ∧ OwnFr w (.slice none 0 0) vr ∧ Ext NoS w w'

theorem outside_in {S : List Sec} {P : List (Int × Sec)} (h : rightB S P = true) : 4 ≤ S.length ∧ S.length ≤ 32768 ∧ ∀ x ∈ P, 0 ≤ x.1 ∧ x.1 < S.length := by
  unfold rightB at h
  simp only [Bool.and_eq_true, decide_eq_true_eq, Bool.not_eq_true', List.any_eq_false] at h
  refine ⟨h.1.1, h.1.2, fun x hx => ?_⟩
  have := h.2 x hx
  unfold outside at this
  simp only [Bool.or_eq_true, decide_eq_true_eq] at this
  omega

theorem crash_all32 (S : List Sec) (P : List (Int × Sec)) (L : List Bool) (h1 : ∀ s ∈ S, s.length = 32) (h2 : ∀ x ∈ P, x.2.length = 32) : ∀ s ∈ crash S P L, s.length = 32 := by
  suffices h : ∀ (Q : List ((Int × Sec) × Nat)) (S : List Sec), (∀ s ∈ S, s.length = 32) → (∀ q ∈ Q, q.1.2.length = 32) → ∀ s ∈ Q.foldl (fun S p => put1 S p.1 (L.getD p.2 false)) S, s.length = 32 from
    h _ S h1 (fun q hq => h2 _ (List.fst_mem_of_mem_zipIdx hq))
  intro Q
  induction Q with
  | nil => intro S h1 _; exact h1
  | cons q Q ih =>
    intro S h1 h2
    rw [List.foldl_cons]
    refine ih _ (fun s hs => ?_) (fun q hq => h2 q (List.mem_cons_of_mem _ hq))
    unfold put1 at hs
    split at hs
    · rcases List.mem_or_eq_of_mem_set hs with hs | rfl
      · exact h1 s hs
      · exact h2 q (List.mem_cons_self ..)
    · exact h1 s hs

/-- What a call of scan gives, told of an elder world. -/
def ScanP (A : List Sec) (m : Nat) (w : World) (e : Ending) (w' : World) : Prop :=
  ∃ vr, e = .returned (.agg #[.int .i64 (scanEp A : Nat), .int .i64 ((scanA A).2 : Nat), vr]) ∧ Recs (fun b => m ≤ b) w' m vr (scanA A).1 ∧ Ext NoS w w'
theorem own_low {w : World} {m m' : Nat} {e : TypeId} {size n : Nat} {v : Value} {xs : List Value} (h : w.ownsRow m e size v n xs) (hb : m' ≤ m) : w.ownsRow m' e size v n xs := by
  refine ⟨h.1, ?_⟩
  rcases h.2 with h0 | ⟨g, cap, cur, hv, h1, r⟩
  · exact .inl h0
  · exact .inr ⟨g, cap, cur, hv, Nat.le_trans hb h1, r⟩
theorem Recs.low {K : Nat → Prop} {w : World} {m m' : Nat} {vr : Value} {recs : List (List UInt8)} (h : Recs K w m vr recs) (hb : m' ≤ m) : Recs K w m' vr recs := by
  obtain ⟨vals, ho, hl, hv⟩ := h
  exact ⟨vals, own_low ho hb, hl, hv⟩
theorem scan_p (A : List Sec) (m g o c n : Nat) (w : World) (hm : m ≤ w.heap.size) (hr : w.rangeAt g o (A.flatMap sv)) (h32 : ∀ s ∈ A, s.length = 32) (hn : A.length = n) (hn2 : n ≤ 1000000) (h0 : 0 < n) :
    Calls Try.prog 41 #[.slice (some ⟨g, o, none⟩) n c] w (ScanP A m w) := by
  subst hn
  exact (scan_t A g o c w hr h32 hn2 h0).mono fun e w' ⟨vr, h1, h2, h3⟩ => ⟨vr, h1, (h2.low hm).mono (fun b _ h => Nat.le_trans hm h), h3⟩
/-- A block of three cells, told for the walk. -/
structure Three (w : World) (b : Nat) (x y z : Value) : Prop where
  c0 : w.cell? ⟨b, 0, none⟩ = some x
  c1 : w.cell? ⟨b, 1, none⟩ = some y
  c2 : w.cell? ⟨b, 2, none⟩ = some z
  f0 : w.frozen? ⟨b, 0, none⟩ = false
  f1 : w.frozen? ⟨b, 1, none⟩ = false
  f2 : w.frozen? ⟨b, 2, none⟩ = false
theorem Blk.tell {w : World} {b : Nat} {t : TypeId} {x y z : Value} (h : Blk w b t #[x, y, z]) : Three w b x y z := ⟨h.cell 0, h.cell 1, h.cell 2, h.frozen 0, h.frozen 1, h.frozen 2⟩
theorem two_stores {w : World} {b1 b2 : Nat} {t : TypeId} {x y z x' y' z' : Value} (h1 : Blk w b1 t #[x, y, z]) (h2 : Blk w b2 t #[x', y', z']) (hne : b1 ≠ b2) (p q r p' q' r' : Value) :
    Blk ((((((w.setCell ⟨b1, 0, none⟩ p).setCell ⟨b1, 1, none⟩ q).setCell ⟨b1, 2, none⟩ r).setCell ⟨b2, 0, none⟩ p').setCell ⟨b2, 1, none⟩ q').setCell ⟨b2, 2, none⟩ r') b1 t #[p, q, r] ∧
    Blk ((((((w.setCell ⟨b1, 0, none⟩ p).setCell ⟨b1, 1, none⟩ q).setCell ⟨b1, 2, none⟩ r).setCell ⟨b2, 0, none⟩ p').setCell ⟨b2, 1, none⟩ q').setCell ⟨b2, 2, none⟩ r') b2 t #[p', q', r'] ∧
    Ext (fun k => k = b1 ∨ k = b2) w ((((((w.setCell ⟨b1, 0, none⟩ p).setCell ⟨b1, 1, none⟩ q).setCell ⟨b1, 2, none⟩ r).setCell ⟨b2, 0, none⟩ p').setCell ⟨b2, 1, none⟩ q').setCell ⟨b2, 2, none⟩ r') := by
  refine ⟨?_, ?_, ?_⟩
  · have h := Room.three ⟨_, h1, rfl⟩ p q r
    exact ((h.far hne _).far hne _).far hne _
  · exact Room.three ⟨_, ((h2.far hne.symm _).far hne.symm _).far hne.symm _, rfl⟩ _ _ _
  · exact ((((((Ext.refl _ w).setCell (.inl (.inl rfl)) _).setCell (.inl (.inl rfl)) _).setCell (.inl (.inl rfl)) _).setCell (.inl (.inr rfl)) _).setCell (.inl (.inr rfl)) _).setCell (.inl (.inr rfl)) _

theorem Recs.past {K : Nat → Prop} {w w' : World} {m p q : Nat} {vr : Value} {recs : List (List UInt8)} {x y : Array Value} (h : Recs K w m vr recs) (hp : Blk w p 92 x) (hq : Blk w q 92 y) (he : Ext (fun k => k = p ∨ k = q) w w') : Recs K w' m vr recs := by
  have h0 := h
  obtain ⟨vals, ho, _, _⟩ := h0
  refine h.ext he (fun g hg e => ?_) (fun b _ ⟨cs, hb⟩ e => ?_)
  · rcases e with e | e
    · exact own_ne ho hp (by decide) (e ▸ hg)
    · exact own_ne ho hq (by decide) (e ▸ hg)
  · rcases e with e | e
    · exact (e ▸ hb).ne_ hp (by decide) rfl
    · exact (e ▸ hb).ne_ hq (by decide) rfl

theorem scanGo_len (ep : Nat) : ∀ (A : List Sec) (i : Nat) (bg : Bool) (life : Nat) (part : List UInt8) (recs : List (List UInt8)) (en : Nat), (scanGo ep A i bg life part recs en).1.length ≤ recs.length + A.length
  | [], _, _, _, _, recs, _ => by simp [scanGo]
  | s :: r, i, bg, life, part, recs, en => by
    rw [scanGo]
    split
    · split
      · have := scanGo_len ep r (i + 1) true (mLi s) [] (recs ++ [part ++ readPay s]) (i + 1)
        simp at this ⊢
        omega
      · have := scanGo_len ep r (i + 1) false (mLi s) (part ++ readPay s) recs en
        simp at this ⊢
        omega
    · simp
theorem scanGo_en (ep : Nat) : ∀ (A : List Sec) (i : Nat) (bg : Bool) (life : Nat) (part : List UInt8) (recs : List (List UInt8)) (en : Nat), en ≤ i → (scanGo ep A i bg life part recs en).2 ≤ i + A.length
  | [], i, _, _, _, recs, _, h => by simpa [scanGo] using h
  | s :: r, i, bg, life, part, recs, en, h => by
    rw [scanGo]
    split
    · split
      · have := scanGo_en ep r (i + 1) true (mLi s) [] (recs ++ [part ++ readPay s]) (i + 1) (Nat.le_refl _)
        simp only [List.length_cons]
        omega
      · have := scanGo_en ep r (i + 1) false (mLi s) (part ++ readPay s) recs en (by omega)
        simp only [List.length_cons]
        omega
    · simp only [List.length_cons]
      omega
theorem scanA_len (A : List Sec) : (scanA A).1.length ≤ A.length := by simpa [scanA] using scanGo_len (scanEp A) A 0 true 0 [] [] 0
theorem scanA_en (A : List Sec) : (scanA A).2 ≤ A.length := by simpa [scanA] using scanGo_en (scanEp A) A 0 true 0 [] [] 0 (Nat.le_refl _)
theorem scanEp_lt (A : List Sec) : scanEp A < 4294967296 := mEp_lt _
section
variable {B : Nat} {w w' : World} {d : Nat} {vs vp : Value} {S : List Sec} {P : List (Int × Sec)} {V A A2 : List Sec} {half l0 e0 : Nat} {e : Ending}
theorem OpenPost.worn (hr : rightB S P = true) (hV : V = crash S P []) (hh : half = S.length / 2) (hA : A = V.take half) (hB : A2 = (V.drop half).take half) (hl : lives V half = (l0, e0))
    (h : 1073741824 < l0 + 1 ∨ ((scanA A).1.length + (scanA A2).1.length = 0 ∧ e0 = 1073741824)) (he : e = .returned (.tuple #[.pointer none, .int .i64 420])) (hx : Ext NoS w w') : OpenPost B w d vs vp S P e w' := by
  subst hV hh hA hB
  unfold OpenPost
  rw [if_neg (by rw [hr]; decide)]
  simp only [hl]
  rw [if_pos]
  · exact ⟨he, hx⟩
  · rcases h with h | ⟨h, h2⟩
    · exact .inl h
    · refine .inr ⟨?_, h2⟩
      rw [List.length_eq_zero_iff.1 (show (scanA ((crash S P []).take (S.length / 2))).1.length = 0 by omega), List.length_eq_zero_iff.1 (show (scanA (((crash S P []).drop (S.length / 2)).take (S.length / 2))).1.length = 0 by omega)]
      rfl
theorem OpenPost.fresh (hr : rightB S P = true) (hV : V = crash S P []) (hh : half = S.length / 2) (hA : A = V.take half) (hB : A2 = (V.drop half).take half) (hl : lives V half = (l0, e0))
    (h1 : l0 + 1 ≤ 1073741824) (h2 : (scanA A).1.length + (scanA A2).1.length = 0) (h3 : e0 ≠ 1073741824)
    (he : ∃ j vr, e = .returned (.tuple #[.pointer (some ⟨j, 0, none⟩), .int .i64 0]) ∧ w.heap.size ≤ j ∧ JAt B w' j d vs (.slice none 0 0) vr (crash S (P ++ recW 0 (e0 + 1) (l0 + 1) 0 []) []) [] 0 (e0 + 1) (l0 + 1) 1 [[]] ∧ OwnFr w (.slice none 0 0) vr ∧
      Ext (fun k => k = d ∨ vs.ownBlock = some k ∨ vp.ownBlock = some k) w w') : OpenPost B w d vs vp S P e w' := by
  subst hV hh hA hB
  unfold OpenPost
  rw [if_neg (by rw [hr]; decide)]
  have e1 := List.length_eq_zero_iff.1 (show (scanA ((crash S P []).take (S.length / 2))).1.length = 0 by omega)
  have e2 := List.length_eq_zero_iff.1 (show (scanA (((crash S P []).drop (S.length / 2)).take (S.length / 2))).1.length = 0 by omega)
  simp only [hl]
  rw [if_neg (by rintro (h | ⟨_, h⟩); omega; exact h3 h), e1, e2, if_pos (by rfl)]
  exact he
theorem OpenPost.old (hr : rightB S P = true) (hV : V = crash S P []) (hh : half = S.length / 2) (hA : A = V.take half) (hB : A2 = (V.drop half).take half) (hl : lives V half = (l0, e0))
    (h1 : l0 + 1 ≤ 1073741824) (h2 : 0 < (scanA A).1.length + (scanA A2).1.length) (useB : Bool) (hu : useB = (decide ((scanA A).1.length = 0) || (decide (0 < (scanA A2).1.length) && decide (scanEp A < scanEp A2))))
    (he : ∃ j vr, e = .returned (.tuple #[.pointer (some ⟨j, 0, none⟩), .int .i64 0]) ∧ w.heap.size ≤ j ∧ JAt B w' j d vs vp vr S P (if useB then 1 else 0) (scanEp (if useB then A2 else A)) (l0 + 1) (scanA (if useB then A2 else A)).2 (scanA (if useB then A2 else A)).1 ∧ OwnFr w (.slice none 0 0) vr ∧ Ext NoS w w') :
    OpenPost B w d vs vp S P e w' := by
  have hu2 : useB = ((scanA A).1.isEmpty || (!(scanA A2).1.isEmpty && decide (scanEp A < scanEp A2))) := by
    rw [hu]
    congr 1
    · cases (scanA A).1 <;> simp
    · cases (scanA A2).1 <;> simp
  have hal : (!((scanA A).1.isEmpty && (scanA A2).1.isEmpty)) = true := by
    cases h3 : (scanA A).1 <;> cases h4 : (scanA A2).1 <;> simp_all
  subst hV hh hA hB
  unfold OpenPost
  rw [if_neg (by rw [hr]; decide)]
  simp only [hl]
  rw [if_neg (by rintro (h | ⟨h, _⟩); omega; rw [hal] at h; cases h), if_neg (by rw [hal]; decide), ← hu2]
  exact he
end
/-- Three cells of a block were set. -/
def Set3 (w w' : World) (j : Nat) (t : TypeId) (cs : Array Value) : Prop := Ext (fun x => x = j) w w' ∧ Blk w' j t cs
theorem set3 {w : World} {j : Nat} {t : TypeId} {cs cs' : Array Value} (h : Blk w j t cs) (a b c : Nat) (x y z : Value) (hcs : ((cs.setIfInBounds a x).setIfInBounds b y).setIfInBounds c z = cs') :
    Set3 w (((w.setCell ⟨j, a, none⟩ x).setCell ⟨j, b, none⟩ y).setCell ⟨j, c, none⟩ z).drew j t cs' := by
  refine ⟨(((ext_setCell _ _ _ _).trans' (ext_setCell _ _ _ _)).trans' (ext_setCell _ _ _ _)).drew, ?_⟩
  rw [← hcs]
  exact (((h.set a x).set b y).set c z).ext (Ext.refl NoS _).drew (fun h => h)
/-- Behind the region with the two scans. -/
def Fin (W w' : World) (m0 b15 b16 : Nat) (x y x' y' va vb : Value) (ra rb : List (List UInt8)) : Prop :=
  b15 ≠ b16 ∧ m0 ≤ b15 ∧ m0 ≤ b16 ∧ Blk w' b15 92 #[x, y, va] ∧ Blk w' b16 92 #[x', y', vb] ∧ Recs (fun b => m0 ≤ b) w' m0 va ra ∧ Recs (fun b => m0 ≤ b) w' m0 vb rb ∧ Ext NoS W w'
def FinE (W w' : World) (m0 : Nat) (v15 v16 x y x' y' : Value) (ra rb : List (List UInt8)) : Prop :=
  ∃ b15 b16 va vb, v15 = .pointer (some ⟨b15, 0, none⟩) ∧ v16 = .pointer (some ⟨b16, 0, none⟩) ∧ Fin W w' m0 b15 b16 x y x' y' va vb ra rb
section
variable {W w9 : World} {m0 : Nat} {va vb : Value} {ra rb : List (List UInt8)}
theorem fin2 {o1 o2 : Nat} (h1 : Blk w9 o1 92 #[.int .i64 0, .int .i64 0, .slice none 0 0]) (h2 : Blk w9 o2 92 #[.int .i64 0, .int .i64 0, .slice none 0 0]) (ne : o1 ≠ o2) (l1 : m0 ≤ o1) (l2 : m0 ≤ o2) (hm : m0 = W.heap.size)
    (ha : Recs (fun b => m0 ≤ b) w9 m0 va ra) (hb : Recs (fun b => m0 ≤ b) w9 m0 vb rb) (he : Ext NoS W w9) (x y x' y' : Value) :
    FinE W ((((((w9.setCell ⟨o1, 0, none⟩ x).setCell ⟨o1, 1, none⟩ y).setCell ⟨o1, 2, none⟩ va).setCell ⟨o2, 0, none⟩ x').setCell ⟨o2, 1, none⟩ y').setCell ⟨o2, 2, none⟩ vb) m0 (.pointer (some ⟨o1, 0, none⟩)) (.pointer (some ⟨o2, 0, none⟩)) x y x' y' ra rb := by
  obtain ⟨k1, k2, k3⟩ := two_stores h1 h2 ne x y va x' y' vb
  exact ⟨_, _, _, _, rfl, rfl, ne, l1, l2, k1, k2, ha.past h1 h2 k3, hb.past h1 h2 k3, he.trans k3 fun i hi e => by rcases e with e | e <;> omega⟩
theorem fin_one {o : Nat} (h1 : Blk w9 o 92 #[.int .i64 0, .int .i64 0, .slice none 0 0]) (x y z : Value) (ys : Array Value) :
    Blk ((((w9.setCell ⟨o, 0, none⟩ x).setCell ⟨o, 1, none⟩ y).setCell ⟨o, 2, none⟩ z).alloc (.cells ys 92)) o 92 #[x, y, z] ∧
    Blk ((((w9.setCell ⟨o, 0, none⟩ x).setCell ⟨o, 1, none⟩ y).setCell ⟨o, 2, none⟩ z).alloc (.cells ys 92)) w9.heap.size 92 ys ∧
    Ext (fun k => k = o ∨ k = o) w9 ((((w9.setCell ⟨o, 0, none⟩ x).setCell ⟨o, 1, none⟩ y).setCell ⟨o, 2, none⟩ z).alloc (.cells ys 92)) :=
  ⟨(Room.three ⟨_, h1, rfl⟩ x y z).alloc _, (Blk.new _ _ _).at_ (by simp), ((((Ext.refl _ w9).setCell (.inl (.inl rfl)) _).setCell (.inl (.inl rfl)) _).setCell (.inl (.inl rfl)) _).alloc _⟩
theorem fin1a {o : Nat} (h1 : Blk w9 o 92 #[.int .i64 0, .int .i64 0, .slice none 0 0]) (l1 : m0 ≤ o) (hm : m0 = W.heap.size)
    (ha : Recs (fun b => m0 ≤ b) w9 m0 va ra) (hb : Recs (fun b => m0 ≤ b) w9 m0 vb rb) (he : Ext NoS W w9) (x y x' y' : Value) :
    FinE W ((((w9.setCell ⟨o, 0, none⟩ x).setCell ⟨o, 1, none⟩ y).setCell ⟨o, 2, none⟩ va).alloc (.cells #[x', y', vb] 92)) m0 (.pointer (some ⟨o, 0, none⟩)) (.pointer (some ⟨w9.heap.size, 0, none⟩)) x y x' y' ra rb := by
  obtain ⟨k1, k2, k3⟩ := fin_one h1 x y va #[x', y', vb]
  have := h1.lt
  have := he.size
  exact ⟨_, _, _, _, rfl, rfl, by omega, l1, by omega, k1, k2, ha.past h1 h1 k3, hb.past h1 h1 k3, he.trans k3 fun i hi e => by rcases e with e | e <;> omega⟩
theorem fin1b {o : Nat} (h1 : Blk w9 o 92 #[.int .i64 0, .int .i64 0, .slice none 0 0]) (l1 : m0 ≤ o) (hm : m0 = W.heap.size)
    (ha : Recs (fun b => m0 ≤ b) w9 m0 va ra) (hb : Recs (fun b => m0 ≤ b) w9 m0 vb rb) (he : Ext NoS W w9) (x y x' y' : Value) :
    FinE W ((((w9.setCell ⟨o, 0, none⟩ x').setCell ⟨o, 1, none⟩ y').setCell ⟨o, 2, none⟩ vb).alloc (.cells #[x, y, va] 92)) m0 (.pointer (some ⟨w9.heap.size, 0, none⟩)) (.pointer (some ⟨o, 0, none⟩)) x y x' y' ra rb := by
  obtain ⟨k1, k2, k3⟩ := fin_one h1 x' y' vb #[x, y, va]
  have := h1.lt
  have := he.size
  exact ⟨_, _, _, _, rfl, rfl, by omega, by omega, l1, k2, k1, ha.past h1 h1 k3, hb.past h1 h1 k3, he.trans k3 fun i hi e => by rcases e with e | e <;> omega⟩
theorem fin0a (hm : m0 = W.heap.size) (ha : Recs (fun b => m0 ≤ b) w9 m0 va ra) (hb : Recs (fun b => m0 ≤ b) w9 m0 vb rb) (he : Ext NoS W w9) (x y x' y' : Value) :
    FinE W ((w9.alloc (.cells #[x, y, va] 92)).alloc (.cells #[x', y', vb] 92)) m0 (.pointer (some ⟨w9.heap.size, 0, none⟩)) (.pointer (some ⟨w9.heap.size + 1, 0, none⟩)) x y x' y' ra rb := by
  have h := ((Ext.refl NoS w9).alloc (.cells #[x, y, va] 92)).alloc (.cells #[x', y', vb] 92)
  have := he.size
  exact ⟨_, _, _, _, rfl, rfl, by omega, by omega, by omega, (Blk.new _ _ _).alloc _, (Blk.new _ _ _).at_ (by simp), ha.ext h (fun _ _ h => h) (fun _ _ _ h => h), hb.ext h (fun _ _ h => h) (fun _ _ _ h => h), he.trans' h⟩
theorem fin0b (hm : m0 = W.heap.size) (ha : Recs (fun b => m0 ≤ b) w9 m0 va ra) (hb : Recs (fun b => m0 ≤ b) w9 m0 vb rb) (he : Ext NoS W w9) (x y x' y' : Value) :
    FinE W ((w9.alloc (.cells #[x', y', vb] 92)).alloc (.cells #[x, y, va] 92)) m0 (.pointer (some ⟨w9.heap.size + 1, 0, none⟩)) (.pointer (some ⟨w9.heap.size, 0, none⟩)) x y x' y' ra rb := by
  have h := ((Ext.refl NoS w9).alloc (.cells #[x', y', vb] 92)).alloc (.cells #[x, y, va] 92)
  have := he.size
  exact ⟨_, _, _, _, rfl, rfl, by omega, by omega, by omega, (Blk.new _ _ _).at_ (by simp), (Blk.new _ _ _).alloc _, ha.ext h (fun _ _ h => h) (fun _ _ _ h => h), hb.ext h (fun _ _ h => h) (fun _ _ _ h => h), he.trans' h⟩
end
end Go.Proofs.Ytmhhfhmpdpgmbaa
