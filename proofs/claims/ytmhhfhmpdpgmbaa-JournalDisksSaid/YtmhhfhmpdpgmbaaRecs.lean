/- Lists of records in memory; what scanning an area gives. -/
import Derived.Test.YtmhhfhmpdpgmbaaRead
namespace Go.Proofs.Ytmhhfhmpdpgmbaa
open Go.RowKit

def mEp (s : Sec) : Nat := if sBad s then 0 else sEpoch s
def mLi (s : Sec) : Nat := if sBad s then 0 else sLife s
def mNu (s : Sec) (i : Nat) : Nat := if sBad s then 0 else i
def mFl (s : Sec) : Nat := if sBad s then 0 else sFlags s
theorem readMark_eq (s : Sec) (i : Nat) : readMark s i = .agg #[.int .i64 (mEp s : Nat), .int .i64 (mLi s : Nat), .int .i64 (mNu s i : Nat), .int .i64 (mFl s : Nat)] := by
  unfold readMark mEp mLi mNu mFl
  split <;> rfl
theorem sFlags_lt (s : Sec) : sFlags s < 256 := (s.getD 12 0).toNat_lt
theorem mFl_lt (s : Sec) : mFl s < 256 := by
  unfold mFl
  split
  · omega
  · exact sFlags_lt s
theorem sEpoch_lt (s : Sec) : sEpoch s < 4294967296 := be_lt4 _ (by simp; omega)
theorem sLife_lt (s : Sec) : sLife s < 4294967296 := be_lt4 _ (by simp; omega)
theorem mEp_lt (s : Sec) : mEp s < 4294967296 := by
  unfold mEp
  split
  · omega
  · exact sEpoch_lt s
theorem mLi_lt (s : Sec) : mLi s < 4294967296 := by
  unfold mLi
  split
  · omega
  · exact sLife_lt s
theorem readOk_bad {s : Sec} {i : Nat} (h : readOk s i = true) : sBad s = false := by
  unfold readOk at h
  simp only [Bool.and_eq_true, Bool.not_eq_true'] at h
  exact h.1
theorem mEp_ok {s : Sec} {i : Nat} (h : readOk s i = true) : mEp s = sEpoch s := by unfold mEp; rw [if_neg (by rw [readOk_bad h]; decide)]
theorem mLi_ok {s : Sec} {i : Nat} (h : readOk s i = true) : mLi s = sLife s := by unfold mLi; rw [if_neg (by rw [readOk_bad h]; decide)]
theorem mFl_ok {s : Sec} {i : Nat} (h : readOk s i = true) : mFl s = sFlags s := by unfold mFl; rw [if_neg (by rw [readOk_bad h]; decide)]
theorem readPay_ok {s : Sec} {i : Nat} (h : readOk s i = true) : readPay s = sPay s := by unfold readPay; rw [if_neg (by rw [readOk_bad h]; decide)]
theorem sPay_len {s : Sec} : (readPay s).length ≤ 18 := by
  unfold readPay
  split
  · simp
  · rename_i h
    have h2 : sLen s ≤ 18 := by
      unfold sBad badHead at h
      simp only [Bool.or_eq_true, decide_eq_true_eq] at h
      omega
    unfold sPay
    rw [List.length_take]
    omega

def ReadPost2 (s : Sec) (i : Nat) (w : World) (e : Ending) (w' : World) : Prop :=
  ∃ v, e = .returned (.tuple #[.agg #[.int .i64 (mEp s : Nat), .int .i64 (mLi s : Nat), .int .i64 (mNu s i : Nat), .int .i64 (mFl s : Nat)], v, .bool (readOk s i)]) ∧ Bytes (fun b => w.heap.size ≤ b) w' v (readPay s) ∧ Ext NoS w w'
theorem read_t2 (s : Sec) (i : Nat) (w : World) (hs : s.length = 32) (hi : i < 4611686018427387904) : Calls Try.prog 40 #[.agg (sv s).toArray, .int .i64 i] w (ReadPost2 s i w) :=
  (read_t s i w hs hi).mono fun e w' ⟨v, h1, h2, h3⟩ => ⟨v, by rw [h1, readMark_eq], h2, h3⟩

/-- Does a sector go on? -/
def goesOn (s : Sec) (i ep life : Nat) (bg : Bool) : Bool :=
  readOk s i && decide (mEp s = ep) && decide (life ≤ mLi s) && (decide (mFl s &&& 1 ≠ 0) == bg) && (bg || decide (mLi s = life))
/-- The records of an area for an epoch, from a place on, and the end. -/
def scanGo (ep : Nat) : List Sec → Nat → Bool → Nat → List UInt8 → List (List UInt8) → Nat → List (List UInt8) × Nat
  | [], _, _, _, _, recs, en => (recs, en)
  | s :: r, i, bg, life, part, recs, en =>
    if goesOn s i ep life bg = true then
      (if mFl s &&& 2 ≠ 0 then scanGo ep r (i + 1) true (mLi s) [] (recs ++ [part ++ readPay s]) (i + 1)
       else scanGo ep r (i + 1) false (mLi s) (part ++ readPay s) recs en)
    else (recs, en)
/-- What scan returns: the epoch; the records and the end. -/
def scanEp (A : List Sec) : Nat := mEp (A.headD [])
def scanA (A : List Sec) : List (List UInt8) × Nat := scanGo (scanEp A) A 0 true 0 [] [] 0

def ByteBlk (w : World) (b : Nat) : Prop := ∃ cs, BB w b 5 cs
theorem ByteBlk.ext {S : Nat → Prop} {w w' : World} {b : Nat} (h : ByteBlk w b) (he : Ext S w w') (hn : ¬ S b) : ByteBlk w' b := let ⟨cs, hc⟩ := h; ⟨cs, hc.ext he hn⟩
/-- A slice of slices of bytes that owns its row. -/
def Recs (K : Nat → Prop) (w : World) (B : Nat) (vr : Value) (recs : List (List UInt8)) : Prop :=
  ∃ vals : List Value, w.ownsRow B 46 1 vr recs.length vals ∧ vals.length = recs.length ∧ ∀ i (h : i < recs.length) (h' : i < vals.length), Bytes (fun b => K b ∧ ByteBlk w b) w vals[i] recs[i]

theorem Bytes.extB {K S : Nat → Prop} {w w' : World} {v : Value} {l : List UInt8} (h : Bytes (fun b => K b ∧ ByteBlk w b) w v l) (he : Ext S w w') (hd : ∀ b, K b → ByteBlk w b → ¬ S b) : Bytes (fun b => K b ∧ ByteBlk w' b) w' v l := by
  obtain ⟨A, c, rfl, hc, h⟩ := h
  refine ⟨A, c, rfl, hc, fun hl => ?_⟩
  obtain ⟨b, o, rfl, ⟨hK, hB⟩, hr⟩ := h hl
  exact ⟨b, o, rfl, ⟨hK, hB.ext he (hd b hK hB)⟩, range_ext hr he (hd b hK hB)⟩
theorem Recs.ext {K S : Nat → Prop} {w w' : World} {B : Nat} {vr : Value} {recs : List (List UInt8)} (h : Recs K w B vr recs) (he : Ext S w w') (h1 : ∀ g, vr.ownBlock = some g → ¬ S g) (h2 : ∀ b, K b → ByteBlk w b → ¬ S b) : Recs K w' B vr recs := by
  obtain ⟨vals, ho, hl, hb⟩ := h
  exact ⟨vals, own_ext ho he h1, hl, fun i hi hi' => (hb i hi hi').extB he h2⟩
theorem Recs.mono {K K' : Nat → Prop} {w : World} {B : Nat} {vr : Value} {recs : List (List UInt8)} (h : Recs K w B vr recs) (h2 : ∀ b, b < w.heap.size → K b → K' b) : Recs K' w B vr recs := by
  obtain ⟨vals, ho, hl, hb⟩ := h
  exact ⟨vals, ho, hl, fun i hi hi' => (hb i hi hi').mono fun b hb hk => ⟨h2 b hb hk.1, hk.2⟩⟩
theorem Recs.nil (K : Nat → Prop) (w : World) (B : Nat) : Recs K w B (.slice none 0 0) [] := ⟨[], World.ownsRow_nil _ _ _ _, rfl, fun i h => absurd h (by simp)⟩
/-- Behind an append of one record. -/
theorem Recs.snoc {K K' S : Nat → Prop} {w w' : World} {B : Nat} {vr' v : Value} {recs : List (List UInt8)} {r : List UInt8} (vals : List Value) (hl : vals.length = recs.length)
    (hb : ∀ i (h : i < recs.length) (h' : i < vals.length), Bytes (fun b => K b ∧ ByteBlk w b) w vals[i] recs[i]) (hv : Bytes (fun b => K' b ∧ ByteBlk w' b) w' v r)
    (he : Ext S w w') (h2 : ∀ b, K b → ByteBlk w b → ¬ S b) (hK : ∀ b, K b → K' b) (ho : w'.ownsRow B 46 1 vr' (recs.length + 1) (vals ++ [v])) : Recs K' w' B vr' (recs ++ [r]) := by
  refine ⟨vals ++ [v], by simpa using ho, by simp [hl], fun i hi hi' => ?_⟩
  by_cases h : i < recs.length
  · rw [List.getElem_append_left (by omega), List.getElem_append_left h]
    exact ((hb i h (by omega)).extB he h2).mono fun b _ hk => ⟨hK b hk.1, hk.2⟩
  · have hi2 : i = recs.length := by simp at hi; omega
    subst hi2
    rw [List.getElem_append_right (by omega), List.getElem_append_right (by omega)]
    simpa [hl] using hv
theorem infoBs : (Try.prog.info? 46).map (fun i => (i.zero, i.size, i.bytes)) = some (some (.slice none 0 0), 1, 24) := by kernel_rfl
end Go.Proofs.Ytmhhfhmpdpgmbaa
