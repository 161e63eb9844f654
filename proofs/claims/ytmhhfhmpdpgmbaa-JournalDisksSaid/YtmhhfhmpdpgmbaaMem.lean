/- Memory: what a world keeps, blocks known whole, slices that read as lists. Nothing of the program. -/
import Derived.WalkKit
import Derived.Deep.QuietTactic
import Derived.BigQuiet
import Derived.Deep.MidRow
import Derived.Deep.AppendLies
import Derived.Handy
namespace Go.Proofs.Ytmhhfhmpdpgmbaa
open Go.RowKit

theorem hide {p : Prop} (h : p) : Hid p := h

/-- A byte as a value. -/
def bv (x : UInt8) : Value := .int .u8 (x.toNat : Int)
theorem bv_def (x : UInt8) : bv x = .int .u8 (x.toNat : Int) := rfl
theorem bv_one (x : UInt8) : (bv x).oneCell' = true := rfl
theorem bv_cells (x : UInt8) : (bv x).cells = #[bv x] := rfl

/-- Block g is just the cells cs of element type t. -/
def Blk (w : World) (g : Nat) (t : TypeId) (cs : Array Value) : Prop := w.heap[g]? = some (.cells cs t (0, 0))

/-- w' is w but for new blocks and the blocks in S. -/
structure Ext (S : Nat → Prop) (w w' : World) : Prop where
  os : w'.os = w.os
  tape : w'.tape = w.tape
  output : w'.output = w.output
  size : w.heap.size ≤ w'.heap.size
  block : ∀ k, k < w.heap.size → ¬ S k → w'.heap[k]? = w.heap[k]?

/-- No block. -/
def NoS : Nat → Prop := fun _ => False

theorem Ext.refl (S : Nat → Prop) (w : World) : Ext S w w := ⟨rfl, rfl, rfl, Nat.le_refl _, fun _ _ _ => rfl⟩
theorem Ext.trans {S S' : Nat → Prop} {a b c : World} (h : Ext S a b) (k : Ext S' b c) (hS : ∀ i, i < a.heap.size → S' i → S i) : Ext S a c :=
  ⟨k.os.trans h.os, k.tape.trans h.tape, k.output.trans h.output, Nat.le_trans h.size k.size,
   fun i hi hn => (k.block i (Nat.lt_of_lt_of_le hi h.size) (fun hs => hn (hS i hi hs))).trans (h.block i hi hn)⟩
theorem Ext.trans' {S : Nat → Prop} {a b c : World} (h : Ext S a b) (k : Ext S b c) : Ext S a c := h.trans k (fun _ _ h => h)
theorem Ext.mono {S S' : Nat → Prop} {a b : World} (h : Ext S a b) (hS : ∀ i, i < a.heap.size → S i → S' i) : Ext S' a b :=
  ⟨h.os, h.tape, h.output, h.size, fun i hi hn => h.block i hi (fun hs => hn (hS i hi hs))⟩
theorem Ext.of_no {S : Nat → Prop} {a b : World} (h : Ext NoS a b) : Ext S a b := h.mono (fun _ _ h => h.elim)
theorem Ext.drew {S : Nat → Prop} {a w : World} (h : Ext S a w) : Ext S a w.drew := ⟨h.os, h.tape, h.output, h.size, h.block⟩
theorem Ext.drewN {S : Nat → Prop} {a w : World} (h : Ext S a w) (n : Nat) : Ext S a (w.drewN n) := ⟨h.os, h.tape, h.output, h.size, h.block⟩
theorem Ext.alloc {S : Nat → Prop} {a w : World} (h : Ext S a w) (o : Obj) : Ext S a (w.alloc o) :=
  h.trans' ⟨rfl, rfl, rfl, by simp, fun k hk _ => Below.heap_alloc _ _ _ hk⟩
theorem Ext.setCell {S : Nat → Prop} {a w : World} (h : Ext S a w) {p : Addr} (hp : S p.block ∨ a.heap.size ≤ p.block) (u : Value) : Ext S a (w.setCell p u) := by
  refine ⟨h.os, h.tape, h.output, by simpa [World.setCell] using h.size, fun k hk hn => ?_⟩
  rw [Below.heap_setCell _ _ _ _ (by rintro rfl; rcases hp with hp | hp; exact hn hp; omega)]
  exact h.block k hk hn
theorem Ext.setCells {S : Nat → Prop} {a : World} {b : Nat} (hp : S b ∨ a.heap.size ≤ b) : ∀ (vs : List Value) (o : Nat) (w : World), Ext S a w → Ext S a (w.setCells b o vs)
  | [], _, _, h => h
  | v :: r, o, w, h => by
    rw [World.setCells]
    exact Ext.setCells hp r (o + 1) _ (h.setCell (p := ⟨b, o, none⟩) hp v)
theorem Ext.grown {S : Nat → Prop} {a w w' : World} {row : Option Nat} (h : Ext S a w) (hg : w.grownBy w' row) (hr : ∀ g, row = some g → S g ∨ a.heap.size ≤ g) : Ext S a w' :=
  ⟨hg.os.trans h.os, hg.tape.trans h.tape, hg.output.trans h.output, Nat.le_trans h.size hg.size,
   fun k hk hn => (hg.block k (Nat.lt_of_lt_of_le hk h.size) (fun e => by rcases hr k e.symm with h1 | h1; exact hn h1; omega)).trans (h.block k hk hn)⟩
theorem Ext.below {S : Nat → Prop} {B : Nat} {w w' : World} (h : Ext S w w') (hB : B ≤ w.heap.size) (hS : ∀ k, S k → B ≤ k) : Below B w w' :=
  ⟨h.os, h.tape, h.output, h.size, fun k hk => h.block k (by omega) (fun hs => by have := hS k hs; omega)⟩
theorem Ext.of_below {S : Nat → Prop} {w w' : World} (h : Below w.heap.size w w') : Ext S w w' := ⟨h.os, h.tape, h.output, h.size, fun k hk _ => h.block k hk⟩
theorem Ext.of_grown {w w' : World} {row : Option Nat} (hg : w.grownBy w' row) : Ext (fun k => row = some k) w w' :=
  ⟨hg.os, hg.tape, hg.output, hg.size, fun k hk hn => hg.block k hk (fun e => hn e.symm)⟩
theorem Ext.cell {S : Nat → Prop} {w w' : World} (h : Ext S w w') {p : Addr} {v : Value} (hc : w.cell? p = some v) (hn : ¬ S p.block) : w'.cell? p = some v :=
  (World.cell?_of_block (w := w) (h.block p.block (World.block_lt_of_cell? w p hc) hn)).trans hc

theorem ext_setCell (w : World) (d i : Nat) (v : Value) : Ext (fun b => b = d) w (w.setCell ⟨d, i, none⟩ v) := Ext.setCell (S := fun b => b = d) (Ext.refl _ _) (p := ⟨d, i, none⟩) (.inl rfl) v
theorem ext_setCells (w : World) (d i : Nat) (vs : List Value) : Ext (fun b => b = d) w (w.setCells d i vs) := Ext.setCells (S := fun b => b = d) (.inl rfl) vs i w (Ext.refl _ _)
section
variable {w w' : World} {g : Nat} {t : TypeId} {cs : Array Value}
theorem Blk.lt (h : Blk w g t cs) : g < w.heap.size := by
  rcases Nat.lt_or_ge g w.heap.size with hlt | hge
  · exact hlt
  · unfold Blk at h; rw [Array.getElem?_eq_none hge] at h; cases h
theorem Blk.cell (h : Blk w g t cs) (i : Nat) : w.cell? ⟨g, i, none⟩ = cs[i]? := cell_of_row w g i cs t (0, 0) h
theorem Blk.frozen (h : Blk w g t cs) (i : Nat) : w.frozen? ⟨g, i, none⟩ = false := by
  unfold Blk at h
  simp [World.frozen?, h]
theorem Blk.new (w : World) (t : TypeId) (cs : Array Value) : Blk (w.alloc (.cells cs t)) w.heap.size t cs := heap_alloc_new w _
theorem Blk.alloc (h : Blk w g t cs) (o : Obj) : Blk (w.alloc o) g t cs := (Below.heap_alloc w o g h.lt).trans h
theorem Blk.set (h : Blk w g t cs) (i : Nat) (u : Value) : Blk (w.setCell ⟨g, i, none⟩ u) g t (cs.setIfInBounds i u) := by
  unfold Blk at h ⊢
  simp [World.setCell, Array.getElem?_modify, h]
theorem Blk.far (h : Blk w g t cs) {p : Addr} (hp : g ≠ p.block) (u : Value) : Blk (w.setCell p u) g t cs := (Below.heap_setCell w p u g hp).trans h
theorem Blk.ext {S : Nat → Prop} (h : Blk w g t cs) (he : Ext S w w') (hg : ¬ S g) : Blk w' g t cs := (he.block g h.lt hg).trans h
theorem Blk.grown {row : Option Nat} (h : Blk w g t cs) (hb : w.grownBy w' row) (hg : row ≠ some g) : Blk w' g t cs := (hb.block g h.lt (fun e => hg e.symm)).trans h
theorem Blk.ne_ {g' : Nat} {t' : TypeId} {cs' : Array Value} (h : Blk w g t cs) (h' : Blk w g' t' cs') (hne : t ≠ t') : g ≠ g' := by
  rintro rfl
  unfold Blk at h h'
  rw [h] at h'
  injection h' with h'
  injection h' with _ ht
  exact hne ht
theorem Blk.inj {cs' : Array Value} {t' : TypeId} (h : Blk w g t cs) (h' : Blk w g t' cs') : cs = cs' := by
  unfold Blk at h h'
  rw [h] at h'
  injection h' with h'
  injection h'
theorem Blk.range (h : Blk w g t cs) (o n : Nat) : w.rangeAt g o (cs.extract o (o + n)).toList := World.rangeAt_of_block h o n
theorem Blk.there (h : Blk w g t cs) (o n : Nat) (hn : o + n ≤ cs.size) : w.there g o n := fun j hj => by
  rw [h.cell, h.frozen]
  exact ⟨by simp; omega, rfl⟩
end

/-- Block g is just the cells cs of element type t, whatever of it is frozen. -/
def BB (w : World) (g : Nat) (t : TypeId) (cs : Array Value) : Prop := ∃ f, w.heap[g]? = some (.cells cs t f)
theorem Blk.bb {w : World} {g : Nat} {t : TypeId} {cs : Array Value} (h : Blk w g t cs) : BB w g t cs := ⟨_, h⟩
theorem BB.lt {w : World} {g : Nat} {t : TypeId} {cs : Array Value} (h : BB w g t cs) : g < w.heap.size := by
  obtain ⟨f, h⟩ := h
  rcases Nat.lt_or_ge g w.heap.size with hlt | hge
  · exact hlt
  · rw [Array.getElem?_eq_none hge] at h; cases h
theorem BB.ext {S : Nat → Prop} {w w' : World} {g : Nat} {t : TypeId} {cs : Array Value} (h : BB w g t cs) (he : Ext S w w') (hg : ¬ S g) : BB w' g t cs := by
  have hl := h.lt
  obtain ⟨f, h⟩ := h
  exact ⟨f, (he.block g hl hg).trans h⟩
theorem BB.ne_ {w : World} {g g' : Nat} {t t' : TypeId} {cs cs' : Array Value} (h : BB w g t cs) (h' : Blk w g' t' cs') (hne : t ≠ t') : g ≠ g' := by
  rintro rfl
  obtain ⟨f, h⟩ := h
  unfold Blk at h'
  rw [h] at h'
  injection h' with h'
  injection h' with _ ht
  exact hne ht
theorem BB.cell {w : World} {g : Nat} {t : TypeId} {cs : Array Value} (h : BB w g t cs) (i : Nat) : w.cell? ⟨g, i, none⟩ = cs[i]? := by
  obtain ⟨f, h⟩ := h
  exact cell_of_row w g i cs t f h
theorem BB.all {w : World} {g : Nat} {t : TypeId} {l : List Value} (h : BB w g t l.toArray) : w.rangeAt g 0 l := fun j v hv => by
  rw [h.cell]
  simpa using hv

/-- v' lies in the block of v, or in a new one. -/
def OwnFr (w : World) (v v' : Value) : Prop := ∀ g, v'.ownBlock = some g → v.ownBlock = some g ∨ w.heap.size ≤ g
/-- An owned row lies in a block that holds its cells first. -/
theorem own_blk {w : World} {B : Nat} {e : TypeId} {size n : Nat} {v : Value} {xs : List Value} (h : w.ownsRow B e size v n xs) {g : Nat} (hg : v.ownBlock = some g) :
    ∃ cur, Blk w g e cur ∧ cur.toList.take (n * size) = xs ∧ B ≤ g ∧ n * size ≤ cur.size := by
  obtain ⟨hl, h⟩ := h
  rcases h with ⟨rfl, _⟩ | ⟨g', cap, cur, rfl, hb, hh, h1, h2, h3, h4⟩
  · simp [Value.ownBlock] at hg
  · simp [Value.ownBlock] at hg
    subst hg
    refine ⟨cur, hh, h4, hb, ?_⟩
    rw [← h4, List.length_take] at hl
    have : cur.toList.length = cur.size := by simp
    omega
theorem own_ext {w w' : World} {S : Nat → Prop} {B : Nat} {e : TypeId} {size n : Nat} {v : Value} {xs : List Value} (h : w.ownsRow B e size v n xs) (he : Ext S w w')
    (hn : ∀ g, v.ownBlock = some g → ¬ S g) : w'.ownsRow B e size v n xs := by
  refine ⟨h.1, ?_⟩
  rcases h.2 with h0 | ⟨g, cap, cur, rfl, hb, hh, r⟩
  · exact .inl h0
  · refine .inr ⟨g, cap, cur, rfl, hb, ?_, r⟩
    rw [he.block g (Blk.lt (w := w) (t := e) hh) (hn g rfl)]
    exact hh
theorem own_ne {w : World} {B : Nat} {e t : TypeId} {size n : Nat} {v : Value} {xs : List Value} {g : Nat} {cs : Array Value} (h : w.ownsRow B e size v n xs) (hg : Blk w g t cs) (hne : e ≠ t) :
    v.ownBlock ≠ some g := by
  intro he
  obtain ⟨cur, hc, _⟩ := own_blk h he
  exact hc.ne_ hg hne rfl
theorem own_own_ne {w : World} {B B' : Nat} {e e' : TypeId} {size n size' n' : Nat} {v v' : Value} {xs xs' : List Value} (h : w.ownsRow B e size v n xs) (h' : w.ownsRow B' e' size' v' n' xs') (hne : e ≠ e')
    {g : Nat} (hg : v.ownBlock = some g) : v'.ownBlock ≠ some g := by
  intro he
  obtain ⟨cur, hc, _⟩ := own_blk h hg
  obtain ⟨cur', hc', _⟩ := own_blk h' he
  exact hc.ne_ hc' hne rfl
theorem own_neB {w : World} {B : Nat} {e t : TypeId} {size n : Nat} {v : Value} {xs : List Value} {g : Nat} {cs : Array Value} (h : w.ownsRow B e size v n xs) (hg : BB w g t cs) (hne : e ≠ t) :
    v.ownBlock ≠ some g := by
  intro he
  obtain ⟨cur, hc, _⟩ := own_blk h he
  exact hg.ne_ hc (fun h => hne h.symm) rfl
theorem own_range {w : World} {B : Nat} {e : TypeId} {size n : Nat} {v : Value} {xs : List Value} (h : w.ownsRow B e size v n xs) {g : Nat} (hg : v.ownBlock = some g) : w.rangeAt g 0 xs := by
  intro j u hu
  have := h.cells hg j u hu
  simpa [Addr.add_mid] using this

theorem range_ext {w w' : World} {S : Nat → Prop} {b o : Nat} {cs : List Value} (h : w.rangeAt b o cs) (he : Ext S w w') (hn : ¬ S b) : w'.rangeAt b o cs :=
  fun j v hv => he.cell (h j v hv) hn
theorem range_drop {w : World} {b o : Nat} {cs : List Value} (h : w.rangeAt b o cs) (k : Nat) : w.rangeAt b (o + k) (cs.drop k) := fun j v hv => by
  have := h (k + j) v (by rwa [List.getElem?_drop] at hv)
  rwa [Nat.add_assoc]
theorem range_take {w : World} {b o : Nat} {cs : List Value} (h : w.rangeAt b o cs) (k : Nat) : w.rangeAt b o (cs.take k) := fun j v hv => by
  rw [List.getElem?_take] at hv
  split at hv
  · exact h j v hv
  · cases hv
theorem range_lt {w : World} {b o : Nat} {cs : List Value} (h : w.rangeAt b o cs) (hn : cs ≠ []) : b < w.heap.size := by
  cases cs with
  | nil => exact absurd rfl hn
  | cons c r => exact World.block_lt_of_cell? w _ (h 0 c rfl)

/-- A slice of bytes that reads as a list; its cells lie in a block of K. -/
def Bytes (K : Nat → Prop) (w : World) (v : Value) (l : List UInt8) : Prop :=
  ∃ A c, v = .slice A l.length c ∧ l.length ≤ c ∧ (l ≠ [] → ∃ b o, A = some ⟨b, o, none⟩ ∧ K b ∧ w.rangeAt b o (l.map bv))

theorem Bytes.ext {K S : Nat → Prop} {w w' : World} {v : Value} {l : List UInt8} (h : Bytes K w v l) (he : Ext S w w') (hd : ∀ b, K b → b < w.heap.size → ¬ S b) : Bytes K w' v l := by
  obtain ⟨A, c, rfl, hc, h⟩ := h
  refine ⟨A, c, rfl, hc, fun hl => ?_⟩
  obtain ⟨b, o, rfl, hK, hr⟩ := h hl
  exact ⟨b, o, rfl, hK, range_ext hr he (hd b hK (range_lt hr (by simpa using hl)))⟩
theorem Bytes.mono {K K' : Nat → Prop} {w : World} {v : Value} {l : List UInt8} (h : Bytes K w v l) (hd : ∀ b, b < w.heap.size → K b → K' b) : Bytes K' w v l := by
  obtain ⟨A, c, rfl, hc, h⟩ := h
  refine ⟨A, c, rfl, hc, fun hl => ?_⟩
  obtain ⟨b, o, rfl, hK, hr⟩ := h hl
  exact ⟨b, o, rfl, hd b (range_lt hr (by simpa using hl)) hK, hr⟩
theorem Bytes.nil (K : Nat → Prop) (w : World) : Bytes K w (.slice none 0 0) [] := ⟨none, 0, rfl, Nat.le_refl _, fun h => absurd rfl h⟩

theorem Blk.all {w : World} {g : Nat} {t : TypeId} {l : List Value} (h : Blk w g t l.toArray) : w.rangeAt g 0 l := fun j v hv => by
  rw [h.cell]
  simpa using hv
theorem Blk.part {w : World} {g : Nat} {t : TypeId} {A l C : List Value} (h : Blk w g t (A ++ (l ++ C)).toArray) : w.rangeAt g A.length l := fun j v hv => by
  have hj : j < l.length := (List.getElem?_eq_some_iff.1 hv).1
  rw [h.cell]
  simp only [List.getElem?_toArray]
  rw [List.getElem?_append_right (by omega), Nat.add_sub_cancel_left, List.getElem?_append_left hj]
  exact hv
/-- The world at hand is forgotten but for what F says of it. -/
theorem wpList_world {P : Program} {ops : Array Oper} {Q : Exit → Act → World → Prop} {rest : List Oper} {a : Act} {W : World} (F : World → Prop) (hF : F W)
    (h : ∀ W', F W' → wpList P ops Q rest a W') : wpList P ops Q rest a W := h W hF
theorem wp_world {P : Program} {c : Code} {Q : Exit → Act → World → Prop} {a : Act} {W : World} (F : World → Prop) (hF : F W)
    (h : ∀ W', F W' → c.wp P Q a W') : c.wp P Q a W := h W hF
theorem Blk.at_ {w : World} {g n : Nat} {t : TypeId} {cs : Array Value} (h : Blk w g t cs) (e : g = n) : Blk w n t cs := e ▸ h
/-- A call that leaves the world alone, inside a region that draws. -/
theorem quiet_left {P : Program} {f : FuncId} {args : Array Value} {w : World} {n : Nat} {v : Value}
    (h : Calls P f args (w.drewN n) fun e w' => e = .returned v ∧ w.drewN n = w') : Calls P f args (w.drewN n) fun e w' => e = .returned v ∧ ∃ m, w' = w.drewN m :=
  h.mono fun _ _ ⟨he, hm⟩ => ⟨he, n, hm.symm⟩
theorem quiet_drew {P : Program} {f : FuncId} {args : Array Value} {w : World} {n : Nat} {v : Value}
    (h : Calls P f args (w.drewN n) fun e w' => e = .returned v ∧ ∃ m, w' = (w.drewN n).drewN m) : Calls P f args (w.drewN n) fun e w' => e = .returned v ∧ ∃ m, w' = w.drewN m :=
  h.mono fun _ _ ⟨he, m, hm⟩ => ⟨he, n + m, by rw [hm, World.drewN_drewN]⟩
end Go.Proofs.Ytmhhfhmpdpgmbaa
