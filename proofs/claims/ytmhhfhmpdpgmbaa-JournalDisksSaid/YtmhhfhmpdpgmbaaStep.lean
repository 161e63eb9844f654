/- The steps of the laws on small disks, and a journal that takes them. -/
import Derived.Test.YtmhhfhmpdpgmbaaBegun
import Derived.Test.YtmhhfhmpdpgmbaaLaw1
import Derived.Test.YtmhhfhmpdpgmbaaAwake
import Derived.Deep.CutBlock
namespace Go.Proofs.Ytmhhfhmpdpgmbaa
open Go.RowKit

/-- A step. -/
structure St where
  k : Nat
  l : Nat
  m : Nat
  lo : Nat
  hk : k < 256
  hl : l < 256
  hm : m < 256
  hlo : lo < 18446744073709551616
/-- The steps lie behind an address. -/
def StepsAt (w : World) (A : Option Addr) (n : Nat) (st : Nat → St) : Prop :=
  ∀ i, i < n → ∃ b o, A = some ⟨b, o, none⟩ ∧ w.cell? ⟨b, o + i * 4, none⟩ = some (.int .u8 (st i).k) ∧ w.cell? ⟨b, o + i * 4 + 1, none⟩ = some (.int .u8 (st i).l) ∧
    w.cell? ⟨b, o + i * 4 + 2, none⟩ = some (.int .u8 (st i).m) ∧ w.cell? ⟨b, o + i * 4 + 3, none⟩ = some (.int .u64 (st i).lo)
/-- A journal of the laws on small disks, as long as it has only done few things. -/
structure Small (B : Nat) (w : World) (j d : Nat) (N k en : Nat) (wr : World) (vs vp vr : Value) (S : List Sec) (P : List (Int × Sec)) (ar ep : Nat) (recs : List (List UInt8)) : Prop where
  jat : JAt B wr j d vs vp vr S P ar ep 1 en recs
  hS : S.length = N
  hen : en ≤ N / 2
  hP : P.length ≤ 4 * k
  hep : ep ≤ k + 1
  har : ar ≤ 1
  hrc : recs.length ≤ k + 1
  ext : Ext NoS w wr
section
variable {B : Nat} {w : World} {j d N k en : Nat} {wr w5 : World} {vs vp vr : Value} {S : List Sec} {P : List (Int × Sec)} {ar ep : Nat} {recs : List (List UInt8)}
theorem Small.no (h : Small B w j d N k en wr vs vp vr S P ar ep recs) (he : Ext NoS wr w5) : Small B w j d N k en w5 vs vp vr S P ar ep recs :=
  { h with jat := h.jat.no he, ext := h.ext.trans' he }
theorem Small.up (h : Small B w j d N k en wr vs vp vr S P ar ep recs) : Small B w j d N (k + 1) en wr vs vp vr S P ar ep recs :=
  { h with hP := by have := h.hP; omega, hep := by have := h.hep; omega, hrc := by have := h.hrc; omega }
theorem Small.room (h : Small B w j d N k en wr vs vp vr S P ar ep recs) (hN : N ≤ 67) : Calls Try.prog 21 #[.pointer (some ⟨j, 0, none⟩)] wr fun e w' => e = .returned (.int .i64 (N / 2 - en : Nat)) ∧ Ext NoS wr w' := by
  obtain ⟨As, cs, rfl, _, _⟩ := own_slice h.jat.disk.safe
  have h2 := h.jat.disk.blk.cell 0
  have hS := h.hS
  rw [hS] at h2
  exact (room_t j d N cs en As wr (h.jat.jb.cell 0) h2 (by omega) (h.jat.jb.cell 4) h.hen).mono fun e w' ⟨he, m, hm⟩ => ⟨he, by rw [hm]; exact (Ext.refl _ _).drewN _⟩
theorem JAt.fresh2 {B : Nat} {w w1 w2 : World} {j d : Nat} {vs vp vr : Value} {S : List Sec} {P : List (Int × Sec)} {ar ep li en : Nat} {recs : List (List UInt8)} (h : JAt B w1 j d vs vp vr S P ar ep li en recs) (hj : B ≤ j) (hd : B ≤ d) (hB : B = w.heap.size) (hx : Ext NoS w w1) (he : Ext (JS j d vs vp vr) w1 w2) : Ext NoS w w2 :=
  h.fresh hj hd hB hx he
theorem Small.check (h : Small B w j d N k en wr vs vp vr S P ar ep recs) (hB : B = w.heap.size) (hj : B ≤ j) (hd : B ≤ d) (hN : N ≤ 67) (hk : k ≤ 30) (v : Value) (b : List UInt8) (hb : Bytes (fun x => ByteBlk wr x) wr v b) (hbl : b.length ≤ 60) :
    (needN b.length ≤ N / 2 → Calls Try.prog 19 #[.pointer (some ⟨j, 0, none⟩), v] wr fun e w' => e = .returned (.int .i64 0) ∧ ∃ vs vp vr S P ar ep recs, Small B w j d N (k + 1) (needN b.length) w' vs vp vr S P ar ep recs) ∧
    (¬ needN b.length ≤ N / 2 → Calls Try.prog 19 #[.pointer (some ⟨j, 0, none⟩), v] wr fun e w' => e = .returned (.int .i64 4) ∧ Ext NoS wr w') := by
  have hc := checkpoint_t B wr j d vs vp vr v S P ar ep 1 en recs b h.jat hb (by rw [h.hS]; omega) (by have := h.hP; omega) (by have := h.ext.size; omega) h.har (by have := h.hep; omega) (by decide) (by omega)
  constructor
  · intro hf
    refine hc.mono fun e w' hp => ?_
    unfold CheckpointPost at hp
    rw [if_neg (by omega), h.hS, if_neg (by omega), if_neg (by have := h.hep; omega)] at hp
    obtain ⟨he, ⟨vr', hj', _⟩, hx⟩ := hp
    refine ⟨he, _, _, _, _, _, _, _, _, hj', by rw [crash_length]; exact h.hS, hf, by simp, by have := h.hep; omega, by omega, by simp, h.jat.fresh hj hd hB h.ext hx⟩
  · intro hf
    refine hc.mono fun e w' hp => ?_
    unfold CheckpointPost at hp
    rw [if_neg (by omega), h.hS, if_pos (by omega)] at hp
    exact hp
theorem Small.app (h : Small B w j d N k en wr vs vp vr S P ar ep recs) (hB : B = w.heap.size) (hj : B ≤ j) (hd : B ≤ d) (hN : N ≤ 67) (hk : k ≤ 30) (v : Value) (b : List UInt8) (hb : Bytes (fun x => ByteBlk wr x) wr v b) (hbl : b.length ≤ 60) (hnd : needN b.length ≤ 4) :
    (needN b.length ≤ N / 2 - en → Calls Try.prog 20 #[.pointer (some ⟨j, 0, none⟩), v] wr fun e w' => e = .returned (.int .i64 0) ∧ ∃ vp' vr', Small B w j d N (k + 1) (en + needN b.length) w' vs vp' vr' S (P ++ recW (ar * (N / 2) : Nat) ep 1 en b) ar ep (recs ++ [b])) ∧
    (¬ needN b.length ≤ N / 2 - en → Calls Try.prog 20 #[.pointer (some ⟨j, 0, none⟩), v] wr fun e w' => e = .returned (.int .i64 4) ∧ Ext NoS wr w') := by
  have hen := h.hen
  have hc := append_t B wr j d vs vp vr v S P ar ep 1 en recs b h.jat hb (by rw [h.hS]; omega) (by have := h.hP; omega) (by have := h.ext.size; omega) h.har (by have := h.hep; omega) (by decide) (by rw [h.hS]; exact hen) (by omega) (by have := h.hrc; omega)
  constructor
  · intro hf
    refine hc.mono fun e w' hp => ?_
    unfold AppendPost at hp
    rw [if_neg (by omega), h.hS, if_neg (by omega)] at hp
    obtain ⟨he, ⟨vp', vr', hj', _⟩, hx⟩ := hp
    refine ⟨he, _, _, hj', h.hS, by have := needN_pos b.length; omega, by rw [List.length_append, recW_length]; have := h.hP; omega, by have := h.hep; omega, h.har, by rw [List.length_append]; have := h.hrc; simp; omega, h.jat.fresh hj hd hB h.ext hx⟩
  · intro hf
    refine hc.mono fun e w' hp => ?_
    unfold AppendPost at hp
    rw [if_neg (by omega), h.hS, if_pos (by omega)] at hp
    exact hp
end
theorem need_small (l mk n : Nat) : needN (recB l mk n).length ≤ 4 := by
  rw [recB_length]
  have := Nat.mod_lt l (show 0 < 61 by decide)
  unfold needN
  omega
end Go.Proofs.Ytmhhfhmpdpgmbaa
