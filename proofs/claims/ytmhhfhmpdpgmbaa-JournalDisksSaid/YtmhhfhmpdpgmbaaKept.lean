/- A journal of the laws on small disks, with all that its disk keeps. -/
import Derived.Test.YtmhhfhmpdpgmbaaStep
import Derived.Test.YtmhhfhmpdpgmbaaInvO
namespace Go.Proofs.Ytmhhfhmpdpgmbaa
open Go.RowKit

structure Kept (B : Nat) (w : World) (j d N k : Nat) (wr : World) (vs vp vr : Value) (S : List Sec) (P : List (Int × Sec)) (ar ep li en : Nat) (recs : List (List UInt8)) (safe : Nat) : Prop where
  jat : JAt B wr j d vs vp vr S P ar ep li en recs
  hS : S.length = N
  inv : ∃ L X T R l0, Inv (N / 2) S P ar ep li en recs safe L X T R l0
  hep : ep ≤ k + 1
  hli : li ≤ k + 1
  hrc : recs.length ≤ k + 1
  hrl : ∀ r ∈ recs, r.length ≤ 60
  hj : B ≤ j
  hd : B ≤ d
  ext : Ext NoS w wr
section
variable {B : Nat} {w : World} {j d N k : Nat} {wr w5 : World} {vs vp vr : Value} {S : List Sec} {P : List (Int × Sec)} {ar ep li en : Nat} {recs : List (List UInt8)} {safe : Nat}
theorem Kept.no (h : Kept B w j d N k wr vs vp vr S P ar ep li en recs safe) (he : Ext NoS wr w5) : Kept B w j d N k w5 vs vp vr S P ar ep li en recs safe :=
  { h with jat := h.jat.no he, ext := h.ext.trans' he }
theorem Kept.up (h : Kept B w j d N k wr vs vp vr S P ar ep li en recs safe) : Kept B w j d N (k + 1) wr vs vp vr S P ar ep li en recs safe :=
  { h with hep := by have := h.hep; omega, hli := by have := h.hli; omega, hrc := by have := h.hrc; omega }
theorem Kept.safe1 (h : Kept B w j d N k wr vs vp vr S P ar ep li en recs safe) : 1 ≤ safe ∧ safe ≤ recs.length := by
  obtain ⟨L, X, T, R, l0, hI⟩ := h.inv
  exact ⟨hI.hsafe, hI.hsafe2⟩
theorem Kept.har (h : Kept B w j d N k wr vs vp vr S P ar ep li en recs safe) : ar ≤ 1 ∧ en ≤ N / 2 ∧ 4 ≤ N ∧ P.length ≤ N / 2 := by
  obtain ⟨L, X, T, R, l0, hI⟩ := h.inv
  have h1 := hI.hS
  have h2 := hI.hh
  have h3 := hI.hen
  have h4 := hI.hen2
  have h5 : P.length = (recSs ep li X.length (recs.drop safe)).length := by rw [hI.pend, posW_length]
  rw [h.hS] at h1
  exact ⟨hI.har, hI.hen2, by omega, by omega⟩
theorem Kept.room (h : Kept B w j d N k wr vs vp vr S P ar ep li en recs safe) (hN : N ≤ 67) : Calls Try.prog 21 #[.pointer (some ⟨j, 0, none⟩)] wr fun e w' => e = .returned (.int .i64 (N / 2 - en : Nat)) ∧ Ext NoS wr w' := by
  obtain ⟨As, cs, rfl, _, _⟩ := own_slice h.jat.disk.safe
  have h2 := h.jat.disk.blk.cell 0
  have hS := h.hS
  rw [hS] at h2
  exact (room_t j d N cs en As wr (h.jat.jb.cell 0) h2 (by omega) (h.jat.jb.cell 4) h.har.2.1).mono fun e w' ⟨he, m, hm⟩ => ⟨he, by rw [hm]; exact (Ext.refl _ _).drewN _⟩
theorem Kept.records (h : Kept B w j d N k wr vs vp vr S P ar ep li en recs safe) (hk : k ≤ 100) : Calls Try.prog 26 #[.pointer (some ⟨j, 0, none⟩)] wr (RecordsPost wr recs) :=
  records_t B wr j d vs vp vr S P ar ep li en recs h.jat (by have := h.hrc; omega) (fun r hr => by have := h.hrl r hr; omega)
theorem mem_take {α : Type} {l : List α} {n : Nat} {x : α} (h : x ∈ l.take n) : x ∈ l := List.mem_of_mem_take h

/-- Append. -/
theorem Kept.app (h : Kept B w j d N k wr vs vp vr S P ar ep li en recs safe) (hB : B = w.heap.size) (hN : N ≤ 67) (hk : k ≤ 100) (v : Value) (b : List UInt8) (hb : Bytes (fun x => ByteBlk wr x) wr v b) (hbl : b.length ≤ 60) :
    (needN b.length ≤ N / 2 - en → Calls Try.prog 20 #[.pointer (some ⟨j, 0, none⟩), v] wr fun e w' => e = .returned (.int .i64 0) ∧ ∃ vp' vr', Kept B w j d N (k + 1) w' vs vp' vr' S (P ++ recW (ar * (N / 2) : Nat) ep li en b) ar ep li (en + needN b.length) (recs ++ [b]) safe ∧
      OwnFr wr vr vr' ∧ Ext (JS j d vs vp vr) wr w') ∧
    (¬ needN b.length ≤ N / 2 - en → Calls Try.prog 20 #[.pointer (some ⟨j, 0, none⟩), v] wr fun e w' => e = .returned (.int .i64 4) ∧ Ext NoS wr w') := by
  obtain ⟨har, hen, hN4, hPl⟩ := h.har
  have hc := append_t B wr j d vs vp vr v S P ar ep li en recs b h.jat hb (by rw [h.hS]; omega) (by omega) (by have := h.ext.size; omega) har (by have := h.hep; omega) (by have := h.hli; omega) (by rw [h.hS]; exact hen) (by omega) (by have := h.hrc; omega)
  constructor
  · intro hf
    refine hc.mono fun e w' hp => ?_
    unfold AppendPost at hp
    rw [if_neg (by omega), h.hS, if_neg (by omega)] at hp
    obtain ⟨he, ⟨vp', vr', hj', hfr⟩, hx⟩ := hp
    obtain ⟨L, X, T, R, l0, hI⟩ := h.inv
    refine ⟨he, vp', vr', ?_, hfr, hx⟩
    exact {
      jat := hj', hS := h.hS, inv := ⟨L, X, T, R, l0, hI.append b (by have := needN_pos b.length; omega)⟩, hep := by have := h.hep; omega, hli := by have := h.hli; omega
      hrc := by rw [List.length_append]; have := h.hrc; simp; omega, hrl := fun r hr => by
        rcases List.mem_append.1 hr with hr | hr
        · exact h.hrl r hr
        · rw [List.mem_singleton.1 hr]; exact hbl
      hj := h.hj, hd := h.hd, ext := h.jat.fresh h.hj h.hd hB h.ext hx }
  · intro hf
    refine hc.mono fun e w' hp => ?_
    unfold AppendPost at hp
    rw [if_neg (by omega), h.hS, if_pos (by omega)] at hp
    exact hp
/-- Checkpoint. -/
theorem Kept.check (h : Kept B w j d N k wr vs vp vr S P ar ep li en recs safe) (hB : B = w.heap.size) (hN : N ≤ 67) (hk : k ≤ 100) (v : Value) (b : List UInt8) (hb : Bytes (fun x => ByteBlk wr x) wr v b) (hbl : b.length ≤ 60) :
    (needN b.length ≤ N / 2 → Calls Try.prog 19 #[.pointer (some ⟨j, 0, none⟩), v] wr fun e w' => e = .returned (.int .i64 0) ∧ ∃ vr', Kept B w j d N (k + 1) w' vs (.slice none 0 0) vr' (crash S (P ++ recW ((1 - ar) * (N / 2) : Nat) (ep + 1) li 0 b) []) [] (1 - ar) (ep + 1) li (needN b.length) [b] 1 ∧
      OwnFr wr (.slice none 0 0) vr' ∧ Ext (JS j d vs vp vr) wr w') ∧
    (¬ needN b.length ≤ N / 2 → Calls Try.prog 19 #[.pointer (some ⟨j, 0, none⟩), v] wr fun e w' => e = .returned (.int .i64 4) ∧ Ext NoS wr w') := by
  obtain ⟨har, hen, hN4, hPl⟩ := h.har
  have hc := checkpoint_t B wr j d vs vp vr v S P ar ep li en recs b h.jat hb (by rw [h.hS]; omega) (by omega) (by have := h.ext.size; omega) har (by have := h.hep; omega) (by have := h.hli; omega) (by omega)
  constructor
  · intro hf
    refine hc.mono fun e w' hp => ?_
    unfold CheckpointPost at hp
    rw [if_neg (by omega), h.hS, if_neg (by omega), if_neg (by have := h.hep; omega)] at hp
    obtain ⟨he, ⟨vr', hj', hfr⟩, hx⟩ := hp
    obtain ⟨L, X, T, R, l0, hI⟩ := h.inv
    refine ⟨he, vr', ?_, hfr, hx⟩
    exact {
      jat := hj', hS := by rw [crash_length]; exact h.hS, inv := by
        obtain ⟨L2, X2, T2, R2, hI2⟩ := hI.check (by rw [h.hS]) b hf (by have := h.hep; omega)
        exact ⟨L2, X2, T2, R2, _, hI2⟩
      hep := by have := h.hep; omega, hli := by have := h.hli; omega, hrc := by simp, hrl := fun r hr => by rw [List.mem_singleton.1 hr]; exact hbl
      hj := h.hj, hd := h.hd, ext := h.jat.fresh h.hj h.hd hB h.ext hx }
  · intro hf
    refine hc.mono fun e w' hp => ?_
    unfold CheckpointPost at hp
    rw [if_neg (by omega), h.hS, if_pos (by omega)] at hp
    exact hp
/-- What a call that only wrote the disk leaves of the rest. -/
theorem Kept.fresh (h : Kept B w j d N k wr vs vp vr S P ar ep li en recs safe) (hB : B = w.heap.size) (hx : Ext (DiskS d vs) wr w5) : Ext NoS w w5 :=
  h.jat.fresh h.hj h.hd hB h.ext (hx.mono fun _ _ h => h.elim (fun h => .inr (.inl h)) (fun h => .inr (.inr (.inl h))))
/-- Commit. -/
theorem Kept.commit (h : Kept B w j d N k wr vs vp vr S P ar ep li en recs safe) (hB : B = w.heap.size) (hN : N ≤ 67) : Calls Try.prog 27 #[.pointer (some ⟨j, 0, none⟩)] wr fun e w' => e = .returned (.int .i64 0) ∧
    Kept B w j d N k w' vs (.slice none 0 0) vr (crash S P []) [] ar ep li en recs recs.length ∧ Ext (DiskS d vs) wr w' := by
  obtain ⟨har, hen, hN4, hPl⟩ := h.har
  refine (commit_t B wr j d vs vp vr S P ar ep li en recs h.jat (by rw [h.hS]; omega) (by omega)).mono fun e w' ⟨he, hj', hx⟩ => ⟨he, ?_, hx⟩
  obtain ⟨L, X, T, R, l0, hI⟩ := h.inv
  exact {
    jat := hj', hS := by rw [crash_length]; exact h.hS, inv := by
      obtain ⟨X2, Z, l1, hI2⟩ := hI.sync (by rw [h.hS])
      exact ⟨_, _, _, _, _, hI2⟩
    hep := h.hep, hli := h.hli, hrc := h.hrc, hrl := h.hrl, hj := h.hj, hd := h.hd, ext := h.fresh hB hx }
/-- Sync of the journal's disk. -/
theorem Kept.sync (h : Kept B w j d N k wr vs vp vr S P ar ep li en recs safe) (hB : B = w.heap.size) (hN : N ≤ 67) : Calls Try.prog 13 #[.pointer (some ⟨d, 0, none⟩)] wr fun e w' => e = .returned (.tuple #[]) ∧
    Kept B w j d N k w' vs (.slice none 0 0) vr (crash S P []) [] ar ep li en recs recs.length ∧ Ext (DiskS d vs) wr w' := by
  obtain ⟨har, hen, hN4, hPl⟩ := h.har
  refine (sync_t B wr d vs vp S P h.jat.disk (by rw [h.hS]; omega) (by omega)).mono fun e w' ⟨he, hd', hx⟩ => ⟨he, ?_, hx⟩
  obtain ⟨L, X, T, R, l0, hI⟩ := h.inv
  exact {
    jat := h.jat.synced hx hd', hS := by rw [crash_length]; exact h.hS, inv := by
      obtain ⟨X2, Z, l1, hI2⟩ := hI.sync (by rw [h.hS])
      exact ⟨_, _, _, _, _, hI2⟩
    hep := h.hep, hli := h.hli, hrc := h.hrc, hrl := h.hrl, hj := h.hj, hd := h.hd, ext := h.fresh hB hx }
/-- Open on the disk of a journal that crashed. -/
theorem Kept.crash (h : Kept B w j d N k wr vs vp vr S P ar ep li en recs safe) (hB : B = w.heap.size) (hN : N ≤ 67) (hk : k ≤ 100) (M : List Bool) (hx : Ext (DiskS d vs) wr w5) (hda : DiskAt B w5 d vs (.slice none 0 0) (Go.Proofs.Ytmhhfhmpdpgmbaa.crash S P M) []) :
    Calls Try.prog 28 #[.pointer (some ⟨d, 0, none⟩)] w5 fun e w' => ∃ q j' vr' li' en', safe ≤ q ∧ q ≤ recs.length ∧ e = .returned (.tuple #[.pointer (some ⟨j', 0, none⟩), .int .i64 0]) ∧ w5.heap.size ≤ j' ∧
      Kept B w j' d N (k + 1) w' vs (.slice none 0 0) vr' (Go.Proofs.Ytmhhfhmpdpgmbaa.crash S P M) [] ar ep li' en' (recs.take q) q ∧ OwnFr w5 (.slice none 0 0) vr' ∧ Ext NoS w5 w' := by
  obtain ⟨har, hen, hN4, hPl⟩ := h.har
  obtain ⟨L, X, T, R, l0, hI⟩ := h.inv
  have h5 := h.fresh hB hx
  refine (open_t B w5 d vs _ _ _ hda (by rw [crash_length, h.hS]; omega) (by simp) (by have := h5.size; omega)).mono fun e w' hp => ?_
  obtain ⟨q, j', vr', li', en', h1, h2, he, hj, hjat, hfr, hx', hl1, hl2, X2, Z, l1, hI2⟩ := open_crash hI M hp (by rw [h.hS]) (by have := h.hli; omega) (by rw [h.hS]; omega)
  refine ⟨q, j', vr', li', en', h1, h2, he, hj, ?_, hfr, hx'⟩
  exact {
    jat := hjat, hS := by rw [crash_length]; exact h.hS, inv := ⟨_, _, _, _, _, hI2⟩, hep := by have := h.hep; omega, hli := by have := h.hli; omega, hrc := by rw [List.length_take]; have := h.hrc; omega
    hrl := fun r hr => h.hrl r (List.mem_of_mem_take hr), hj := by have := h5.size; omega, hd := h.hd, ext := h5.trans' hx' }
/-- Open on the disk as it is. -/
theorem Kept.again (h : Kept B w j d N k wr vs vp vr S P ar ep li en recs safe) (hB : B = w.heap.size) (hN : N ≤ 67) (hk : k ≤ 100) :
    Calls Try.prog 28 #[.pointer (some ⟨d, 0, none⟩)] wr fun e w' => ∃ j' vr' li', e = .returned (.tuple #[.pointer (some ⟨j', 0, none⟩), .int .i64 0]) ∧ wr.heap.size ≤ j' ∧ 
      JAt B w' j' d vs vp vr' S P ar ep li' en recs ∧ OwnFr wr (.slice none 0 0) vr' ∧ Ext NoS wr w' ∧ 1 ≤ li' ∧ li' ≤ li + 1 ∧ ∃ L X T R l0, Inv (N / 2) (Go.Proofs.Ytmhhfhmpdpgmbaa.crash S P []) [] ar ep li' en recs recs.length L X T R l0 := by
  obtain ⟨har, hen, hN4, hPl⟩ := h.har
  obtain ⟨L, X, T, R, l0, hI⟩ := h.inv
  refine (open_t B wr d vs vp S P h.jat.disk (by rw [h.hS]; omega) (by omega) (by have := h.ext.size; omega)).mono fun e w' hp => ?_
  obtain ⟨j', vr', li', he, hj, hjat, hfr, hx', hl1, hl2, X2, Z, l1, hI2⟩ := open_inv hI hp (by rw [h.hS]) (by have := h.hli; omega) (by rw [h.hS]; omega)
  exact ⟨j', vr', li', he, hj, hjat, hfr, hx', hl1, hl2, _, _, _, _, _, hI2⟩
/-- A new journal. -/
theorem Kept.new (_hB : B = w.heap.size) (hN : 4 ≤ N) (hj : B ≤ j) (hd : B ≤ d) (h : JAt B wr j d vs vp vr (newS N) [] 0 1 1 1 [[]]) (hx : Ext NoS w wr) : Kept B w j d N 0 wr vs vp vr (newS N) [] 0 1 1 1 [[]] 1 := by
  obtain ⟨L, X, T, R, hI⟩ := Inv.new N hN
  exact { jat := h, hS := newS_length N, inv := ⟨L, X, T, R, _, hI⟩, hep := by decide, hli := by decide, hrc := by decide, hrl := by simp, hj := hj, hd := hd, ext := hx }
end
end Go.Proofs.Ytmhhfhmpdpgmbaa
