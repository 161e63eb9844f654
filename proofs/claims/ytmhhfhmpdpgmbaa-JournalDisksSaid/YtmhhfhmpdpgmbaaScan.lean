/- scan. -/
import Derived.Test.YtmhhfhmpdpgmbaaRecs
namespace Go.Proofs.Ytmhhfhmpdpgmbaa
open Go.RowKit

def ScanPost (A : List Sec) (w : World) (e : Ending) (w' : World) : Prop :=
  ∃ vr, e = .returned (.agg #[.int .i64 (scanEp A : Nat), .int .i64 ((scanA A).2 : Nat), vr]) ∧ Recs (fun b => w.heap.size ≤ b) w' w.heap.size vr (scanA A).1 ∧ Ext NoS w w'

/-- What holds at the head of a round. -/
structure ScanRel (A : List Sec) (w : World) (O k : Nat) (bg : Bool) (life : Nat) (part : List UInt8) (recs : List (List UInt8)) (en : Nat) (vr v7 : Value) (wr : World) : Prop where
  heq : scanA A = scanGo (scanEp A) (A.drop k) k bg life part recs en
  hlife : life < 4294967296
  hen : en ≤ k
  hplen : part.length ≤ 18 * k
  hrlen : recs.length ≤ k
  hown : bg = false → wr.ownsRow w.heap.size 5 1 v7 part.length (part.map bv)
  hnil : bg = true → part = []
  hout : Blk wr O 92 #[.int .i64 (scanEp A : Nat), .int .i64 (en : Nat), vr]
  hres : Room wr w.heap.size 92 3
  hrecs : Recs (fun b => w.heap.size ≤ b ∧ (bg = false → v7.ownBlock ≠ some b)) wr w.heap.size vr recs
  hext : Ext NoS w wr
  hO : w.heap.size < O

theorem ScanRel.ext {A : List Sec} {w : World} {O k : Nat} {bg : Bool} {life : Nat} {part : List UInt8} {recs : List (List UInt8)} {en : Nat} {vr v7 : Value} {wr w' : World} (h : ScanRel A w O k bg life part recs en vr v7 wr) (he : Ext NoS wr w') : ScanRel A w O k bg life part recs en vr v7 w' :=
  ⟨h.heq, h.hlife, h.hen, h.hplen, h.hrlen, fun hb => own_ext (h.hown hb) he (fun _ _ h => h), h.hnil, h.hout.ext he (fun h => h), h.hres.ext he (fun h => h), h.hrecs.ext he (fun _ _ h => h) (fun _ _ _ h => h), h.hext.trans' he, h.hO⟩

theorem sizeFound : (Try.prog.info? 92).map (·.size) = some 3 := by kernel_rfl
theorem Room.three {w : World} {g : Nat} {t : TypeId} (h : Room w g t 3) (a b c : Value) :
    Blk (((w.setCell ⟨g, 0, none⟩ a).setCell ⟨g, 1, none⟩ b).setCell ⟨g, 2, none⟩ c) g t #[a, b, c] := by
  obtain ⟨⟨l⟩, hb, hs⟩ := h
  match l, hs with
  | [x, y, z], _ =>
    have := ((hb.set 0 a).set 1 b).set 2 c
    simpa using this
theorem and1 (f : Nat) (h : f < 256) : bits .and .i64 (f : Int) 1 = ((f &&& 1 : Nat) : Int) := i64_and_nat f 1 (by omega) (by omega)

theorem same_own {W w' : World} {B : Nat} {e : TypeId} {n m : Nat} {V : Value} {xs : List Value} (_ : W.ownsRow B e n V m xs) (hg : W.grownBy w' V.ownBlock) : W.grownBy w' V.ownBlock := hg
theorem same_or {W : World} {B : Nat} {e : TypeId} {n m : Nat} {V v' : Value} {xs : List Value} (_ : W.ownsRow B e n V m xs) {x : Option Nat} (hg : v'.ownBlock = V.ownBlock ∨ v'.ownBlock = x) : v'.ownBlock = V.ownBlock ∨ v'.ownBlock = x := hg
/-- Behind the append of the payload. -/
structure AfterPart (w : World) (O M ep en e l n f : Nat) (part : List UInt8) (recs : List (List UInt8)) (vr v' : Value) (w3 : World) : Prop where
  hown : w3.ownsRow w.heap.size 5 1 v' part.length (part.map bv)
  hout : Blk w3 O 92 #[.int .i64 ep, .int .i64 en, vr]
  hres : Room w3 w.heap.size 92 3
  hM : Blk w3 M 85 #[.int .i64 e, .int .i64 l, .int .i64 n, .int .i64 f]
  hrecs : Recs (fun b => w.heap.size ≤ b ∧ v'.ownBlock ≠ some b) w3 w.heap.size vr recs
  hext : Ext NoS w w3
theorem own_base {w : World} {B : Nat} {e : TypeId} {size n : Nat} {v : Value} {xs : List Value} (h : w.ownsRow B e size v n xs) {g : Nat} (hg : v.ownBlock = some g) : B ≤ g := by
  rcases h.2 with ⟨rfl, _⟩ | ⟨g', cap, cur, rfl, hb, _⟩
  · simp [Value.ownBlock] at hg
  · simp [Value.ownBlock] at hg
    omega
theorem afterPart {w W w' : World} {O M ep en e l n f m : Nat} {part0 part : List UInt8} {recs : List (List UInt8)} {vr V v' : Value} (hown : W.ownsRow w.heap.size 5 1 V m (part0.map bv)) (hg : W.grownBy w' V.ownBlock)
    (hor : v'.ownBlock = V.ownBlock ∨ v'.ownBlock = some W.heap.size) (ho : w'.ownsRow w.heap.size 5 1 v' part.length (part.map bv)) (hout : Blk W O 92 #[.int .i64 ep, .int .i64 en, vr]) (hres : Room W w.heap.size 92 3)
    (hM : Blk W M 85 #[.int .i64 e, .int .i64 l, .int .i64 n, .int .i64 f]) (hrecs : Recs (fun b => w.heap.size ≤ b ∧ V.ownBlock ≠ some b) W w.heap.size vr recs) (hext : Ext NoS w W) : AfterPart w O M ep en e l n f part recs vr v' w' := by
  have hE3 : Ext (fun g => V.ownBlock = some g) W w' := (Ext.refl _ W).grown hg (fun g hg => .inl hg)
  refine ⟨ho, hout.ext hE3 (fun e => own_ne hown hout (by decide) e), ?_, hM.ext hE3 (fun e => own_ne hown hM (by decide) e), ?_, hext.trans hE3 (fun i hi e => ?_)⟩
  · obtain ⟨cs, hB, hc⟩ := hres
    exact ⟨cs, hB.ext hE3 (fun e => own_ne hown hB (by decide) e), hc⟩
  · have hh : ∀ g, vr.ownBlock = some g → ¬ (V.ownBlock = some g) := fun g hg e => by
      obtain ⟨vals, hvo, _, _⟩ := hrecs
      exact own_own_ne hvo hown (by decide) hg e
    have h1 := hrecs.mono (K' := fun b => (w.heap.size ≤ b ∧ V.ownBlock ≠ some b) ∧ v'.ownBlock ≠ some b) (fun b hb h => ⟨h, fun e => by
      rcases hor with h2 | h2
      · exact h.2 (h2 ▸ e)
      · rw [h2] at e; injection e with e; omega⟩)
    exact (h1.ext hE3 hh (fun b h _ => h.1.2)).mono (fun b _ h => ⟨h.1.1, h.2⟩)
  · have := own_base hown e
    omega
theorem AfterPart.ext {w : World} {O M ep en e l n f : Nat} {part : List UInt8} {recs : List (List UInt8)} {vr v' : Value} {w3 w4 : World} (h : AfterPart w O M ep en e l n f part recs vr v' w3) (he : Ext NoS w3 w4) : AfterPart w O M ep en e l n f part recs vr v' w4 :=
  ⟨own_ext h.hown he (fun _ _ h => h), h.hout.ext he (fun h => h), h.hres.ext he (fun h => h), h.hM.ext he (fun h => h), h.hrecs.ext he (fun _ _ h => h) (fun _ _ _ h => h), h.hext.trans' he⟩
theorem scanRel_part {A : List Sec} {w : World} {O M en e l n f k li : Nat} {part : List UInt8} {recs : List (List UInt8)} {vr v' : Value} {w4 : World} (h : AfterPart w O M (scanEp A) en e l n f part recs vr v' w4)
    (hgo : scanA A = scanGo (scanEp A) (A.drop (k + 1)) (k + 1) false li part recs en) (hl : li < 4294967296) (hp : part.length ≤ 18 * (k + 1)) (hr : recs.length ≤ k) (hen : en ≤ k) (hO : w.heap.size < O) : ScanRel A w O (k + 1) false li part recs en vr v' w4 :=
  ⟨hgo, by omega, by omega, hp, by omega, fun _ => h.hown, fun h => absurd h (by decide), h.hout, h.hres, h.hrecs.mono (fun b _ h => ⟨h.1, fun _ => h.2⟩), h.hext, hO⟩
theorem Bytes.of_ownB {w : World} {B : Nat} {v : Value} {l : List UInt8} (h : w.ownsRow B 5 1 v l.length (l.map bv)) : Bytes (fun b => B ≤ b ∧ ByteBlk w b) w v l := by
  rcases h.2 with ⟨rfl, h0⟩ | ⟨g, cap, cur, rfl, hb, hh, h1, _⟩
  · have : l = [] := List.eq_nil_of_length_eq_zero h0
    subst this
    exact Bytes.nil _ _
  · exact ⟨_, cap, rfl, h1, fun _ => ⟨g, 0, rfl, ⟨hb, _, _, hh⟩, own_range h rfl⟩⟩
/-- Behind the append of a record. -/
structure AfterRec (w : World) (O ep en : Nat) (recs : List (List UInt8)) (vr v5 : Value) (w5 : World) : Prop where
  hout : Blk w5 O 92 #[.int .i64 ep, .int .i64 en, vr]
  hres : Room w5 w.heap.size 92 3
  hrecs : Recs (fun b => w.heap.size ≤ b) w5 w.heap.size v5 recs
  hext : Ext NoS w w5
theorem afterRec {w w4 w5 : World} {O M ep en e l n f : Nat} {part : List UInt8} {recs : List (List UInt8)} {vr v' v5 : Value} (h : AfterPart w O M ep en e l n f part recs vr v' w4) (vals : List Value) (hvo : w4.ownsRow w.heap.size 46 1 vr recs.length vals)
    (hvl : vals.length = recs.length) (hvb : ∀ i (h : i < recs.length) (h' : i < vals.length), Bytes (fun b => (w.heap.size ≤ b ∧ v'.ownBlock ≠ some b) ∧ ByteBlk w4 b) w4 vals[i] recs[i])
    (ho : w5.ownsRow w.heap.size 46 1 v5 (recs.length + 1) (vals ++ [v'])) (hg : (w4.alloc (.cells #[v'] 46)).grownBy w5 vr.ownBlock) : AfterRec w O ep en (recs ++ [part]) vr v5 w5 := by
  have hE : Ext (fun g => vr.ownBlock = some g) w4 w5 := ((Ext.refl _ w4).alloc _).grown hg (fun g hg => .inl hg)
  refine ⟨h.hout.ext hE (fun e => own_ne hvo h.hout (by decide) e), ?_, ?_, h.hext.trans hE (fun i hi e => ?_)⟩
  · obtain ⟨cs, hB, hc⟩ := h.hres
    exact ⟨cs, hB.ext hE (fun e => own_ne hvo hB (by decide) e), hc⟩
  · have hne : ∀ b, ByteBlk w4 b → ¬ (vr.ownBlock = some b) := fun b ⟨cs, hB⟩ e => own_neB hvo hB (by decide) e
    refine Recs.snoc (K := fun b => w.heap.size ≤ b) (v := v') vals hvl (fun i h1 h2 => (hvb i h1 h2).mono (fun b _ h => ⟨h.1.1, h.2⟩)) ?_ hE (fun b _ hb => hne b hb) (fun b h => h) ho
    exact Bytes.of_ownB (own_ext h.hown hE (fun g hg e => own_own_ne h.hown hvo (by decide) hg e))
  · have := own_base hvo e
    omega
theorem scanRel_rec {A : List Sec} {w : World} {O en k l : Nat} {recs : List (List UInt8)} {vr v5 v7 : Value} {w5 : World} (h : AfterRec w O (scanEp A) en recs vr v5 w5)
    (hgo : scanA A = scanGo (scanEp A) (A.drop (k + 1)) (k + 1) true l [] recs (k + 1)) (hl : l < 4294967296) (hr : recs.length ≤ k + 1) (hO : w.heap.size < O) :
    ScanRel A w O (k + 1) true l [] recs (k + 1) v5 v7 ((w5.setCell ⟨O, 2, none⟩ v5).setCell ⟨O, 1, none⟩ (.int .i64 (k + 1 : Nat))) := by
  have hE := (ext_setCell w5 O 2 v5).trans' (ext_setCell _ O 1 (.int .i64 (k + 1 : Nat)))
  have hB := (h.hout.set 2 v5).set 1 (.int .i64 (k + 1 : Nat))
  refine ⟨hgo, hl, Nat.le_refl _, by simp, hr, (fun h => absurd h (by decide)), fun _ => rfl, by simpa using hB, h.hres.ext hE (by omega), ?_, h.hext.trans hE (fun i hi e => by omega), hO⟩
  refine (h.hrecs.ext hE (fun g hg e => ?_) (fun b _ ⟨cs, hb⟩ e => ?_)).mono (fun b _ h => ⟨h, fun h => absurd h (by decide)⟩)
  · obtain ⟨vals, hvo, _, _⟩ := h.hrecs
    exact own_ne hvo h.hout (by decide) (e ▸ hg)
  · exact (e ▸ hb).ne_ h.hout (by decide) rfl
set_option maxRecDepth 100000 in
set_option maxHeartbeats 8000000 in
theorem scan_t (A : List Sec) (g o c : Nat) (w : World) (hr : w.rangeAt g o (A.flatMap sv)) (h32 : ∀ s ∈ A, s.length = 32) (hn : A.length ≤ 1000000) (h0 : 0 < A.length) :
    Calls Try.prog 41 #[.slice (some ⟨g, o, none⟩) A.length c] w (ScanPost A w) := by
  have hel : ∀ k (hk : k < A.length), w.rangeAt g (o + k * 32) (sv A[k]) := fun k hk => by
    have h1 := range_take (range_drop hr (k * 32)) 32
    rwa [flat_drop sv 32 A k (fun x hx => by rw [sv_length, h32 x hx]) hk] at h1
  have hr0 := hel 0 h0
  simp only [Nat.zero_mul, Nat.add_zero] at hr0
  obtain ⟨s0, hs0⟩ : ∃ s0, s0 = A[0] := ⟨_, rfl⟩
  rw [← hs0] at hr0
  have hl0 : s0.length = 32 := by rw [hs0]; exact h32 _ (List.getElem_mem _)
  have hep : mEp s0 = scanEp A := by
    rw [hs0, scanEp]
    cases A with
    | nil => simp at h0
    | cons x r => rfl
  have hsz0 : (Try.prog.info? 53).map (·.size) = some (sv s0).length := by rw [sizeSec, sv_length, hl0]
  have HS0 := hide hs0; clear hs0
  have HL0 := hide hl0; clear hl0
  have HEP := hide hep; clear hep
  have HR := hide hr; clear hr
  have HEL := hide hel; clear hel
  have H32 := hide h32; clear h32
  go_enter Try.func41, Try.ntmps41
  go_wp2_with (first
    | ((with_reducible refine wpList_load_mid (op := ⟨some 18, _, _, _, _, _⟩) rfl 53 _ rfl g o ?_ (sv s0) _ ?_ Try.underlying53 rfl hsz0 ?_); (exact rfl); (exact range_ext hr0 ((Ext.refl NoS _).alloc _) (fun h => h)))
    | ((go_at_call 40); refine Hid.out ?_))
  refine hide ?_
  refine (read_t2 s0 0 _ HL0.out (by decide)).mono ?_
  rintro e w1 ⟨v, rfl, hb1, hE1⟩
  clear hb1
  have hE1' := ((Ext.refl NoS w).alloc _).trans' hE1
  have hR1 : Blk w1 w.heap.size 92 _ := (Blk.new w _ _).ext hE1 (fun h => h)
  have HE1 := hide hE1'; clear hE1 hE1'
  have HR1 := hide hR1; clear hR1
  have hzero : IntKind.i64.wrap 0 = 0 := by decide
  go_wp2
  obtain ⟨O, hO⟩ : ∃ O, O = w1.heap.size + 1 := ⟨_, rfl⟩
  have hzero2 := HEP.out
  rw [hzero2, ← hO]
  clear hzero hzero2
  refine wp_world (fun W => ScanRel A w O 0 true 0 [] [] 0 (.slice none 0 0) (.slice none 0 0) W) ?_ ?_
  · refine ⟨rfl, by decide, Nat.le_refl _, by simp, by simp, (fun h => absurd h (by decide)), fun _ => rfl, (Blk.new _ _ _).at_ (by rw [hO]; simp), ⟨_, (HR1.out.alloc _).alloc _, rfl⟩, Recs.nil _ _ _, (HE1.out.alloc _).alloc _, ?_⟩
    have := HR1.out.lt
    omega
  clear hO HE1 HR1
  intro W hrel0
  go_loopw [7, 8, 9, 28] (fun v7 v8 v9 v28 wr => ∃ (k : Nat) (bg : Bool) (life : Nat) (part : List UInt8) (recs : List (List UInt8)) (en : Nat) (vr : Value), k ≤ A.length ∧ v28 = .int .i64 k ∧ v8 = .bool bg ∧ v9 = .int .i64 life ∧ ScanRel A w O k bg life part recs en vr v7 wr) (fun _ _ _ i _ => A.length - (intOf i).toNat)
  case atStart => exact ⟨0, true, 0, [], [], 0, _, Nat.zero_le _, rfl, rfl, rfl, hrel0⟩
  case round =>
    clear hrel0 W
    obtain ⟨k, bg, life, part, recs, en, vr, hk, rfl, rfl, rfl, hrel⟩ := hrel
    by_cases hlt : k < A.length
    · obtain ⟨s, hs⟩ : ∃ s, s = A[k] := ⟨_, rfl⟩
      have hrk := range_ext (HEL.out k hlt) hrel.hext (fun h => h)
      rw [← hs] at hrk
      have hs32 : s.length = 32 := by rw [hs]; exact H32.out _ (List.getElem_mem _)
      have hszs : (Try.prog.info? 53).map (·.size) = some (sv s).length := by rw [sizeSec, sv_length, hs32]
      have HSK := hide hs; clear hs
      have HS32 := hide hs32; clear hs32
      have HREL := hide hrel; clear hrel
      have hnew : (wr.alloc (.cells (sv s).toArray 53)).rangeAt wr.heap.size 0 (sv s) := (Blk.new wr _ _).all
      go_wp2_with (first
        | ((with_reducible refine wpList_load_mid (op := ⟨some 32, _, _, _, _, _⟩) rfl 53 _ rfl g (o + k * 32) ?_ (sv s) _ hrk Try.underlying53 rfl hszs ?_); exact rfl)
        | ((with_reducible refine wpList_store_new (op := ⟨none, .store 53 _ _, _, _, _, _⟩) wr 53 _ (sv s).toArray rfl _ _ rfl ?_ ?_ ?_ ?_ ?_ ?_); (exact rfl); (exact rfl); (simpa using hszs); (have := HS32.out; simp [sv_length, this]); (simpa using sv_one s))
        | ((with_reducible refine wpList_load_mid (op := ⟨some 34, _, _, _, _, _⟩) rfl 53 _ rfl wr.heap.size 0 ?_ (sv s) _ hnew Try.underlying53 rfl hszs ?_); exact rfl)
        | ((go_at_call 40); refine Hid.out ?_))
      refine hide ?_
      refine (read_t2 s k _ HS32.out (by omega)).mono ?_
      rintro e w2 ⟨v2, rfl, hb2, hE2⟩
      have hE2' := ((Ext.refl NoS wr).alloc (.cells (sv s).toArray 53)).trans' hE2
      have hb2' := hb2.mono (K' := fun b => wr.heap.size ≤ b) (fun b _ h => by simp at h; omega)
      have HE2 := hide hE2'; clear hE2 hE2'
      have HB2 := hide hb2'; clear hb2 hb2'
      go_upto_region 9 with fail
      have hM0 := Blk.new w2 85 #[.int .i64 (mEp s : Nat), .int .i64 (mLi s : Nat), .int .i64 (mNu s k : Nat), .int .i64 (mFl s : Nat)]
      refine wp_world (fun W => ScanRel A w O k bg life part recs en vr u7 W ∧ Blk W w2.heap.size 85 #[.int .i64 (mEp s : Nat), .int .i64 (mLi s : Nat), .int .i64 (mNu s k : Nat), .int .i64 (mFl s : Nat)] ∧ Bytes (fun b => wr.heap.size ≤ b) W v2 (readPay s)) ⟨HREL.out.ext (HE2.out.alloc _), hM0, HB2.out.ext ((Ext.refl NoS _).alloc _) (fun _ _ _ h => h)⟩ ?_
      clear hM0
      rintro W ⟨hrel, hM, hB2⟩
      obtain ⟨A2, c2, rfl, hc2, hr2⟩ := hB2
      have m0 := hM.cell 0
      have m1 := hM.cell 1
      have m3 := hM.cell 3
      have o0 := hrel.hout.cell 0
      simp at m0 m1 m3 o0
      have hM2 := HE2.out.size

      have hf1 := and1 (mFl s) (mFl_lt s)
      have hf2 := and2 (mFl s) (mFl_lt s)
      have hl4 := mLi_lt s
      have hgo : goesOn s k (scanEp A) life bg = (readOk s k && decide (mEp s = scanEp A) && decide (life ≤ mLi s) && (decide (mFl s &&& 1 ≠ 0) == bg) && (bg || decide (mLi s = life))) := rfl
      have hpl := sPay_len (s := s)
      clear HREL HE2 HB2
      obtain ⟨pay, hpay⟩ : ∃ p, p = readPay s := ⟨_, rfl⟩
      obtain ⟨ok, hok⟩ : ∃ p, p = readOk s k := ⟨_, rfl⟩
      obtain ⟨e, he⟩ : ∃ p, p = mEp s := ⟨_, rfl⟩
      obtain ⟨l, hl⟩ : ∃ p, p = mLi s := ⟨_, rfl⟩
      obtain ⟨f, hf⟩ : ∃ p, p = mFl s := ⟨_, rfl⟩
      obtain ⟨ep, hep⟩ : ∃ p, p = scanEp A := ⟨_, rfl⟩
      obtain ⟨go, hgo0⟩ : ∃ p, p = goesOn s k (scanEp A) life bg := ⟨_, rfl⟩
      rw [← hgo0] at hgo
      rw [← hpay] at hpl hr2
      rw [← hok, ← he, ← hl, ← hf, ← hep] at hgo
      rw [← he] at m0
      rw [← hl] at m1 hl4
      rw [← hf] at m3 hf1 hf2
      rw [← hep] at o0
      rw [← hok, ← hpay]
      have HREL := hide hrel
      have HR2 := hide hr2
      have HM := hide hM
      have HPAY := hide hpay
      have HOK := hide hok
      have HE := hide he
      have HL := hide hl
      have HF := hide hf
      have HEPP := hide hep
      have HGO0 := hide hgo0
      have HGO := hide hgo
      clear hrel hr2 hM hpay hok he hl hf hep hgo0 hgo
      clear HS32 hrk hszs hnew
      go_cut [72] (fun v72 w' => v72 = .bool (!go) ∧ W = w')
      case first =>
        cases ok <;> cases bg
        all_goals go_wp2
        all_goals
          go_meet
          refine ⟨congrArg Value.bool ?_, rfl⟩
          rw [HGO.out, Bool.eq_iff_iff]
          simp
          try omega
      case rest =>
        obtain ⟨rfl, rfl⟩ := hcut
        clear HGO hf1 o0 m0
        cases go with
        | false =>
          have hrel := HREL.out
          have hfin : scanA A = (recs, en) := by
            rw [hrel.heq, List.drop_eq_getElem_cons hlt, scanGo, if_neg]
            rw [← HSK.out, ← HGO0.out]; decide
          clear HREL HR2 HM HPAY HOK HE HL HF HEPP HGO0 hf2 m1 m3
          obtain ⟨vals, hvo, hvl, hvb⟩ := hrel.hrecs
          obtain ⟨Av, cv, hvv, _, _⟩ := own_slice hvo
          subst hvv
          clear hvo hvl hvb vals
          have o0 := hrel.hout.cell 0
          have o1 := hrel.hout.cell 1
          have o2 := hrel.hout.cell 2
          simp at o0 o1 o2
          have r0 := hrel.hres.cell 0 (by decide)
          have r1 := hrel.hres.cell 1 (by decide)
          have r2 := hrel.hres.cell 2 (by decide)
          have f0 := hrel.hres.frozen 0
          have f1 := hrel.hres.frozen 1
          have f2 := hrel.hres.frozen 2
          have HFIN := hide hfin; clear hfin
          have HREL := hide hrel; clear hrel
          go_wp2
          refine bodyPost_ret (results_cell_row rfl _ _ w.heap.size 92 _ (0, 0) _ rfl (Room.three HREL.out.hres _ _ _) Try.underlying92 rfl sizeFound) rfl ?_
          have hE3 := ((ext_setCell W w.heap.size 0 (Value.int .i64 (scanEp A : Nat))).trans' (ext_setCell _ w.heap.size 1 (Value.int .i64 (en : Nat)))).trans' (ext_setCell _ w.heap.size 2 (Value.slice Av recs.length cv))
          have hne := HREL.out.hrecs
          refine ⟨Value.slice Av recs.length cv, ?_, ?_, HREL.out.hext.trans hE3 (fun i hi e => absurd e (Nat.ne_of_lt hi))⟩
          · rw [HFIN.out]
          · rw [HFIN.out]
            refine (hne.ext hE3 (fun g hg e => ?_) (fun b _ hb e => ?_)).mono (fun b _ h => h.1)
            · obtain ⟨cs, hB, _⟩ := HREL.out.hres
              obtain ⟨vals, hvo, _, _⟩ := hne
              exact own_ne hvo hB (by decide) (e ▸ hg)
            · obtain ⟨cs, hB, _⟩ := HREL.out.hres
              obtain ⟨cs2, hB2⟩ := hb
              exact (e ▸ hB2).ne_ hB (by decide) rfl
        | true =>
          have hrel := HREL.out
          have hown : W.ownsRow w.heap.size 5 1 (if bg then .slice none 0 0 else u7) part.length (part.map bv) := by
            cases bg with
            | true => rw [hrel.hnil rfl]; exact World.ownsRow_nil _ _ _ _
            | false => exact hrel.hown rfl
          have hrecs : Recs (fun b => w.heap.size ≤ b ∧ (if bg then Value.slice none 0 0 else u7).ownBlock ≠ some b) W w.heap.size vr recs := by
            cases bg with
            | true => exact hrel.hrecs.mono (fun b _ h => ⟨h.1, by simp [Value.ownBlock]⟩)
            | false => exact hrel.hrecs.mono (fun b _ h => ⟨h.1, h.2 rfl⟩)
          have hgo : scanA A = (if f &&& 2 ≠ 0 then scanGo (scanEp A) (A.drop (k + 1)) (k + 1) true l [] (recs ++ [part ++ pay]) (k + 1) else scanGo (scanEp A) (A.drop (k + 1)) (k + 1) false l (part ++ pay) recs en) := by
            rw [hrel.heq, List.drop_eq_getElem_cons hlt, scanGo, if_pos (by rw [← HSK.out, ← HGO0.out]), ← HSK.out, ← HF.out, ← HL.out, ← HPAY.out]
          have hsize := hrel.hext.size
          have HOWN := hide hown; clear hown
          have HRECS := hide hrecs; clear hrecs
          have HGO1 := hide hgo; clear hgo
          have hlim : part.length ≤ 18 * k := hrel.hplen
          have hlim2 : recs.length ≤ k := hrel.hrlen
          have hout := hrel.hout
          have hO := hrel.hO
          have hlen := hrel.hen
          have hres := hrel.hres
          have hext := hrel.hext
          have HOUT := hide hout
          have HRES := hide hres
          have HEXT := hide hext
          clear hrel HREL HPAY HOK HE HEPP HGO0 m1 m3 hout hres hext
          cases bg
          all_goals
            go_wp2_with ((at_builtin; refine Hid.out ?_))
            refine hide ?_
            refine wpList_append_any rfl _ _ 46 rfl w.heap.size 5 _ 1 1 Try.underlying46 infoB rfl (by decide) _ part.length (part.map bv) rfl HOWN.out A2 pay.length c2 (pay.map bv) rfl (by simp) (fun hn => ?_) (bvs_one pay) (by unfold maxLen; omega) (by omega) hsize ?_
            · obtain ⟨b, o, h, _, hr⟩ := HR2.out (by simpa using hn)
              exact ⟨b, o, h, hr⟩
            · intro v' w' ho hg hor
              rw [← List.map_append] at ho
              have hg2 := same_own HOWN.out hg
              have hor2 := same_or HOWN.out hor
              clear hg hor
              refine wpList_world (fun w3 => AfterPart w O w2.heap.size (scanEp A) en (mEp s) (mLi s) (mNu s k) (mFl s) (part ++ pay) recs vr v' w3) (afterPart HOWN.out hg2 hor2 (by rw [List.length_append]; exact ho) HOUT.out HRES.out HM.out HRECS.out HEXT.out) ?_
              clear ho hg2 hor2 HOUT HRES HM HRECS HEXT HOWN HR2 hsize
              intro w3 hap
              have m1 := hap.hM.cell 1
              have m3 := hap.hM.cell 3
              simp at m1 m3
              rw [← HL] at m1
              rw [← HF] at m3
              have HAP := hide hap; clear hap
              go_upto_region 13 with fail
              go_quiet (fail)
              obtain ⟨w4, hw4⟩ : ∃ w4, w4 = w3.drewN nq := ⟨_, rfl⟩
              have hap := HAP.out.ext ((Ext.refl NoS w3).drewN nq)
              rw [← hw4] at hap ⊢
              clear HAP hw4 m1 m3 hf2
              have HAP := hide hap
              by_cases hz : f &&& 2 = 0
              · have hbo : (((f &&& 2 : Nat) : Int) != 0) = false := by rw [hz]; rfl
                rw [hbo]
                have hgo : scanA A = _ := HGO1.out.trans (if_neg (by simpa using hz))
                have HGO2 := hide hgo
                clear hgo HGO1 hbo hap
                go_wp2
                go_round
                case rel => exact ⟨k + 1, false, l, part ++ pay, recs, en, vr, hlt, by go_num, rfl, rfl, scanRel_part HAP.out HGO2.out hl4 (by rw [List.length_append]; omega) hlim2 hlen hO⟩
                case measure => simp [intOf]; omega
              · have hbo : (((f &&& 2 : Nat) : Int) != 0) = true := by
                  rw [bne_iff_ne]; omega
                rw [hbo]
                have hgo : scanA A = _ := HGO1.out.trans (if_pos hz)
                have HGO2 := hide hgo
                have o2 := hap.hout.cell 2
                simp at o2
                have hsz4 := hap.hext.size
                obtain ⟨pn, hpn⟩ : ∃ pn, pn = (part ++ pay).length := ⟨_, rfl⟩
                have howp := hap.hown
                rw [← hpn] at howp
                obtain ⟨Av', cv', hv', _, _⟩ := own_slice howp
                clear howp hpn
                subst hv'
                clear hgo HGO1 hbo hap hz
                go_wp2_with ((at_builtin; refine Hid.out ?_))
                refine hide ?_
                obtain ⟨vals, hvo, hvl, hvb⟩ := HAP.out.hrecs
                refine wpList_append_any rfl _ _ 67 rfl w.heap.size 46 _ 1 24 Try.underlying67 infoBs rfl (by decide) vr recs.length vals rfl (own_ext hvo ((Ext.refl NoS _).alloc _) (fun _ _ h => h)) _ 1 _ [.slice Av' pn cv'] rfl rfl (fun _ => ⟨_, _, rfl, (Blk.new _ _ _).all⟩) (by simp [Value.oneCell']) (by unfold maxLen; omega) (by omega) (by simp; omega) ?_
                intro v5 w5 ho5 hg5 hor5
                obtain ⟨A5, c5, hv5, _, _⟩ := own_slice ho5
                subst hv5
                have har := afterRec HAP.out vals hvo hvl hvb ho5 hg5
                clear ho5 hg5 hor5 hvo hvl hvb vals
                have o2 := har.hout.cell 2
                have o1 := har.hout.cell 1
                simp at o1 o2
                have p2 := har.hout.frozen 2
                have p1 := har.hout.frozen 1
                have HAR := hide har; clear har HAP
                go_wp2
                go_round
                case rel => exact ⟨k + 1, true, l, [], _, k + 1, _, hlt, by go_num, rfl, rfl, scanRel_rec HAR.out HGO2.out hl4 (by simpa using hlim2) hO⟩
                case measure => simp [intOf]; omega
    · have HREL := hide hrel; clear hrel
      have hrel := HREL.out
      have hfin : scanA A = (recs, en) := by
        rw [hrel.heq, List.drop_of_length_le (by omega), scanGo]
      clear HREL
      obtain ⟨vals, hvo, hvl, hvb⟩ := hrel.hrecs
      obtain ⟨Av, cv, hvv, _, _⟩ := own_slice hvo
      subst hvv
      clear hvo hvl hvb vals
      have o0 := hrel.hout.cell 0
      have o1 := hrel.hout.cell 1
      have o2 := hrel.hout.cell 2
      simp at o0 o1 o2
      have r0 := hrel.hres.cell 0 (by decide)
      have r1 := hrel.hres.cell 1 (by decide)
      have r2 := hrel.hres.cell 2 (by decide)
      have f0 := hrel.hres.frozen 0
      have f1 := hrel.hres.frozen 1
      have f2 := hrel.hres.frozen 2
      have HFIN := hide hfin; clear hfin
      have HREL := hide hrel; clear hrel
      go_wp2
      refine bodyPost_ret (results_cell_row rfl _ _ w.heap.size 92 _ (0, 0) _ rfl (Room.three HREL.out.hres _ _ _) Try.underlying92 rfl sizeFound) rfl ?_
      have hE3 := ((ext_setCell wr w.heap.size 0 (Value.int .i64 (scanEp A : Nat))).trans' (ext_setCell _ w.heap.size 1 (Value.int .i64 (en : Nat)))).trans' (ext_setCell _ w.heap.size 2 (Value.slice Av recs.length cv))
      have hne := HREL.out.hrecs
      refine ⟨Value.slice Av recs.length cv, ?_, ?_, HREL.out.hext.trans hE3 (fun i hi e => absurd e (Nat.ne_of_lt hi))⟩
      · rw [HFIN.out]
      · rw [HFIN.out]
        refine (hne.ext hE3 (fun g hg e => ?_) (fun b _ hb e => ?_)).mono (fun b _ h => h.1)
        · obtain ⟨cs, hB, _⟩ := HREL.out.hres
          obtain ⟨vals, hvo, _, _⟩ := hne
          exact own_ne hvo hB (by decide) (e ▸ hg)
        · obtain ⟨cs, hB, _⟩ := HREL.out.hres
          obtain ⟨cs2, hB2⟩ := hb
          exact (e ▸ hB2).ne_ hB (by decide) rfl
end Go.Proofs.Ytmhhfhmpdpgmbaa
