/- A list of records that a law keeps beside a journal: what the journal's acts leave of it. -/
import Derived.Test.YtmhhfhmpdpgmbaaCopy
namespace Go.Proofs.Ytmhhfhmpdpgmbaa
open Go.RowKit

/-- Two values that lie in different blocks. -/
def Sep (v u : Value) : Prop := ∀ g, u.ownBlock = some g → v.ownBlock ≠ some g
/-- A kept list: it may be read and grown. -/
abbrev Mod (w : World) (B : Nat) (v : Value) (m : List (List UInt8)) : Prop := Recs (fun _ => True) w B v m
section
variable {B : Nat} {w w6 w7 : World} {j d : Nat} {vs vp vr vr' vM v' v5 : Value} {S : List Sec} {P : List (Int × Sec)} {ar ep li en : Nat} {recs m : List (List UInt8)} {b : List UInt8}
theorem mod_blk (h : Mod w B vM m) {g : Nat} (hg : vM.ownBlock = some g) : ∃ cur, Blk w g 46 cur := by
  obtain ⟨vals, ho, _⟩ := h
  obtain ⟨cur, hc, _⟩ := own_blk ho hg
  exact ⟨cur, hc⟩
/-- What the journal's own acts leave of it. -/
theorem mod_js (hj : JAt B w j d vs vp vr S P ar ep li en recs) (h : Mod w B vM m) (hs : Sep vr vM) (hx : Ext (JS j d vs vp vr) w w6) : Mod w6 B vM m := by
  refine h.ext hx (fun g hg hj' => ?_) (fun b _ hb => hj.byte_ne b hb)
  obtain ⟨cur, hc⟩ := mod_blk h hg
  rcases hj' with h' | h' | h' | h' | h'
  · exact (h' ▸ hc).ne_ hj.jb (by decide) rfl
  · exact (h' ▸ hc).ne_ hj.disk.blk (by decide) rfl
  · exact own_ne hj.disk.safe hc (by decide) h'
  · exact own_ne hj.disk.pend hc (by decide) h'
  · exact hs g hg h'
theorem js_disk {T : Nat → Prop} (hx : Ext (DiskS d vs) w w6) (hT : ∀ k, DiskS d vs k → T k) : Ext T w w6 := hx.mono fun i _ h => hT i h
theorem disk_js {k : Nat} (h : DiskS d vs k) : JS j d vs vp vr k := h.elim (fun h => .inr (.inl h)) (fun h => .inr (.inr (.inl h)))
theorem sep_fr (h : Mod w B vM m) (hs : Sep vr vM) (hf : OwnFr w vr vr') : Sep vr' vM := fun g hg e => by
  obtain ⟨cur, hc⟩ := mod_blk h hg
  rcases hf g e with h' | h'
  · exact hs g hg h'
  · have := hc.lt; omega
theorem sep_new (h : Mod w B vM m) (hf : OwnFr w (.slice none 0 0) vr') : Sep vr' vM := fun g hg e => by
  obtain ⟨cur, hc⟩ := mod_blk h hg
  rcases hf g e with h' | h'
  · simp [Value.ownBlock] at h'
  · have := hc.lt; omega
/-- A list in a new block is none of the journal's. -/
theorem sep_fresh (hj : JAt B w j d vs vp vr S P ar ep li en recs) (hf : ∀ g, vM.ownBlock = some g → w.heap.size ≤ g) : Sep vr vM := fun g hg e => by
  have := js_lt hj (.inr (.inr (.inr (.inr e))))
  have := hf g hg
  omega
theorem sep_cut {A : Option Addr} {n n' c : Nat} (h : Sep vr (.slice A n c)) : Sep vr (.slice A n' c) := fun g hg => h g (by cases A <;> exact hg)
theorem sep_lit (hj : JAt B w j d vs vp vr S P ar ep li en recs) {n c : Nat} : Sep vr (.slice (some ⟨w.heap.size, 0, none⟩) n c) := sep_fresh hj (fun g hg => by simp [Value.ownBlock] at hg; omega)
/-- What the list's growing leaves of the journal. -/
theorem jat_mod (hj : JAt B w j d vs vp vr S P ar ep li en recs) (h : Mod w B vM m) (hs : Sep vr vM) (hx : Ext (fun k => vM.ownBlock = some k) w w6) : JAt B w6 j d vs vp vr S P ar ep li en recs := by
  have hne : ∀ (x : Nat) t cs, BB w x t cs → t ≠ 46 → ¬ (vM.ownBlock = some x) := fun x t cs hb h1 h' => by
    obtain ⟨cur, hc⟩ := mod_blk h h'
    exact hb.ne_ hc h1 rfl
  refine hj.ext hx (hne _ _ _ hj.jb.bb (by decide)) (hne _ _ _ hj.disk.blk.bb (by decide)) (fun g hg => ?_) (fun g hg => ?_) (fun g hg e => hs g e hg) (fun b ⟨cs, hb⟩ => hne _ _ _ hb (by decide))
  · obtain ⟨cur, hc, _⟩ := own_blk hj.disk.safe hg
    exact hne _ _ _ hc.bb (by decide)
  · obtain ⟨cur, hc, _⟩ := own_blk hj.disk.pend hg
    exact hne _ _ _ hc.bb (by decide)
theorem sep_push (hj : JAt B w j d vs vp vr S P ar ep li en recs) (hs : Sep vr vM) {o : Obj} (hor : v'.ownBlock = vM.ownBlock ∨ v'.ownBlock = some (w.alloc o).heap.size) : Sep vr v' := fun g hg e => by
  rcases hor with h | h
  · exact hs g (h ▸ hg) e
  · rw [h] at hg
    injection hg with hg
    have := js_lt hj (.inr (.inr (.inr (.inr e))))
    simp at hg
    omega
theorem ext_push {o : Obj} (hg : (w.alloc o).grownBy w7 vM.ownBlock) : Ext (fun x => vM.ownBlock = some x) w w7 := ((Ext.refl NoS w).alloc o).of_no.grown hg (fun _ hg => .inl hg)
/-- The list of which writes are lost. -/
theorem bools_own {m : Nat} {L : List Bool} {v : Value} {n : Nat} (hL : L.length = n) (ho : w.ownsRow m 4 1 v n (L.map Value.bool)) (hd : DiskAt B w d vs vp S P) : Bools (fun b => ¬ DiskS d vs b) w v L := by
  subst hL
  obtain ⟨A, c, rfl, hc, _⟩ := own_slice ho
  refine ⟨A, c, rfl, hc, fun hn => ?_⟩
  obtain ⟨b, o, rfl, hr⟩ := own_src ho (by simpa using hn)
  refine ⟨b, o, rfl, fun h => ?_, hr⟩
  obtain ⟨cur, hcur, _⟩ := own_blk ho (g := b) rfl
  rcases h with h | h
  · exact (h ▸ hcur).ne_ hd.blk (by decide) rfl
  · exact own_neB hd.safe hcur.bb (by decide) h
/-- One more record. -/
theorem mod_push (vals : List Value) (hvl : vals.length = m.length) (hvb : ∀ i (h : i < m.length) (h' : i < vals.length), Bytes (fun b => True ∧ ByteBlk w b) w vals[i] m[i]) (hm : Mod w B vM m)
    (hx : Ext (fun k => vM.ownBlock = some k) w w7) (ho : w7.ownsRow B 46 1 v' (m.length + 1) (vals ++ [v5])) (hb : Bytes (fun x => ByteBlk w x) w v5 b) : Mod w7 B v' (m ++ [b]) := by
  have hne : ∀ x, ByteBlk w x → ¬ (vM.ownBlock = some x) := fun x ⟨cs, hx⟩ h' => by
    obtain ⟨cur, hc⟩ := mod_blk hm h'
    exact hx.ne_ hc (by decide) rfl
  exact Recs.snoc (K := fun _ => True) (K' := fun _ => True) (v := v5) vals hvl hvb ((hb.ext hx (fun x hx' _ => hne x hx')).mono (fun x _ hx' => ⟨trivial, hx'.ext hx (hne x hx')⟩)) hx (fun x _ hx' => hne x hx') (fun _ h => h) ho
/-- The first of them. -/
theorem own_cut {e : TypeId} {size n c k : Nat} {A : Option Addr} {xs : List Value} (h : w.ownsRow B e size (.slice A n c) n xs) (hk : k ≤ n) (h0 : 0 < n) : w.ownsRow B e size (.slice A k c) k (xs.take (k * size)) := by
  have hl := h.1
  rcases h.2 with ⟨_, h1⟩ | ⟨g, cap, cur, hv, hb, hh, h1, h2, h3, h4⟩
  · omega
  · injection hv with hA _ hc
    subst hA hc
    refine ⟨?_, .inr ⟨g, c, cur, rfl, hb, hh, by omega, h2, h3, ?_⟩⟩
    · rw [List.length_take, hl]
      have : k * size ≤ n * size := Nat.mul_le_mul_right _ hk
      omega
    · rw [← h4, List.take_take]
      have : k * size ≤ n * size := Nat.mul_le_mul_right _ hk
      rw [Nat.min_eq_left this]
theorem mod_cut {A : Option Addr} {c k : Nat} (h : Mod w B (.slice A m.length c) m) (hk : k ≤ m.length) (h0 : 0 < m.length) : Mod w B (.slice A k c) (m.take k) := by
  obtain ⟨vals, ho, hl, hb⟩ := h
  have := own_cut ho hk h0
  rw [Nat.mul_one] at this
  have hkl : (m.take k).length = k := by rw [List.length_take]; omega
  refine ⟨vals.take k, by rw [hkl]; exact this, by rw [List.length_take, List.length_take]; omega, fun i hi hi' => ?_⟩
  rw [List.getElem_take, List.getElem_take]
  exact hb i (by rw [hkl] at hi; omega) (by rw [List.length_take] at hi'; omega)
/-- A list of one. -/
theorem mod_one {A : Option Addr} {c : Nat} (hB : B ≤ w.heap.size) (hb : Bytes (fun x => ByteBlk w x) w (.slice A b.length c) b) :
    Mod (w.alloc (.cells #[.slice A b.length c] 46)) B (.slice (some ⟨w.heap.size, 0, none⟩) 1 1) [b] := by
  have h6 : Ext NoS w (w.alloc (.cells #[.slice A b.length c] 46)) := (Ext.refl NoS w).alloc _
  refine ⟨[.slice A b.length c], World.ownsRow_lit (base := B) (e := 46) (size := 1) w #[.slice A b.length c] 1 hB (by unfold maxLen; omega) rfl, rfl, fun i hi hi' => ?_⟩
  have : i = 0 := by simpa using hi
  subst this
  exact (hb.ext h6 (fun _ _ _ h => h)).mono (fun x _ hx => ⟨trivial, hx.ext h6 (fun h => h)⟩)
end
section
variable {B : Nat} {w : World} {j d N k : Nat} {wr w5 : World} {vs vp vr vM : Value} {S : List Sec} {P : List (Int × Sec)} {ar ep li en : Nat} {recs m : List (List UInt8)} {safe : Nat}
theorem Kept.mod (h : Kept B w j d N k wr vs vp vr S P ar ep li en recs safe) (hB : B = w.heap.size) (hm : Mod wr B vM m) (hs : Sep vr vM) (hx : Ext (fun x => vM.ownBlock = some x) wr w5) : Kept B w j d N k w5 vs vp vr S P ar ep li en recs safe :=
  { h with jat := jat_mod h.jat hm hs hx, ext := h.ext.trans hx (fun i hi e => by obtain ⟨vals, ho, _⟩ := hm; have := own_base ho e; omega) }
end
end Go.Proofs.Ytmhhfhmpdpgmbaa
