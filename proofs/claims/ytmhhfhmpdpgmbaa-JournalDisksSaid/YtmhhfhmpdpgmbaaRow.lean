/- Rows whose elements take several cells: reading one element, writing one element. -/
import Derived.Test.YtmhhfhmpdpgmbaaMem
import Derived.Deep.WholeRow
namespace Go.Proofs.Ytmhhfhmpdpgmbaa
open Go.RowKit

theorem flat_drop {α : Type} (f : α → List Value) (n : Nat) : ∀ (l : List α) (k : Nat), (∀ x ∈ l, (f x).length = n) → (h : k < l.length) → ((l.flatMap f).drop (k * n)).take n = f l[k]
  | [], k, _, h => absurd h (by simp)
  | x :: r, 0, hl, _ => by
    have := hl x (List.mem_cons_self ..)
    simp only [List.flatMap_cons, Nat.zero_mul, List.drop_zero, List.getElem_cons_zero]
    rw [List.take_append_of_le_length (by omega), List.take_of_length_le (by omega)]
  | x :: r, k + 1, hl, h => by
    have h1 := hl x (List.mem_cons_self ..)
    rw [List.flatMap_cons, show (k + 1) * n = (f x).length + k * n by rw [h1, Nat.add_mul]; omega, List.drop_length_add_append, List.getElem_cons_succ]
    exact flat_drop f n r k (fun y hy => hl y (List.mem_cons_of_mem _ hy)) (by simpa using h)
theorem flat_length {α : Type} (f : α → List Value) (n : Nat) : ∀ (l : List α), (∀ x ∈ l, (f x).length = n) → (l.flatMap f).length = l.length * n
  | [], _ => by simp
  | x :: r, hl => by
    rw [List.flatMap_cons, List.length_append, hl x (List.mem_cons_self ..), flat_length f n r (fun y hy => hl y (List.mem_cons_of_mem _ hy)), List.length_cons, Nat.add_mul]
    omega
theorem flat_take {α : Type} (f : α → List Value) (n : Nat) (l : List α) (k : Nat) (hl : ∀ x ∈ l, (f x).length = n) : (l.flatMap f).take (k * n) = (l.take k).flatMap f := by
  induction l generalizing k with
  | nil => simp
  | cons x r ih =>
    cases k with
    | zero => simp
    | succ k =>
      have h1 := hl x (List.mem_cons_self ..)
      rw [List.flatMap_cons, show (k + 1) * n = (f x).length + k * n by rw [h1, Nat.add_mul]; omega, List.take_length_add_append, List.take_succ_cons, List.flatMap_cons,
        ih k (fun y hy => hl y (List.mem_cons_of_mem _ hy))]
theorem flat_skip {α : Type} (f : α → List Value) (n : Nat) (l : List α) (k : Nat) (hl : ∀ x ∈ l, (f x).length = n) : (l.flatMap f).drop (k * n) = (l.drop k).flatMap f := by
  induction l generalizing k with
  | nil => simp
  | cons x r ih =>
    cases k with
    | zero => simp
    | succ k =>
      have h1 := hl x (List.mem_cons_self ..)
      rw [List.flatMap_cons, show (k + 1) * n = (f x).length + k * n by rw [h1, Nat.add_mul]; omega, List.drop_length_add_append, List.drop_succ_cons,
        ih k (fun y hy => hl y (List.mem_cons_of_mem _ hy))]
theorem own_elem {α : Type} {w : World} {B : Nat} {e : TypeId} {n m : Nat} {v : Value} {f : α → List Value} {l : List α} (h : w.ownsRow B e n v m (l.flatMap f)) (hl : ∀ x ∈ l, (f x).length = n)
    {g : Nat} (hg : v.ownBlock = some g) (k : Nat) (hk : k < l.length) : w.rangeAt g (k * n) (f l[k]) := by
  have h1 := range_take (range_drop (own_range h hg) (k * n)) n
  rwa [flat_drop f n l k hl hk, Nat.zero_add] at h1

/-- An array with the values vs written from place o on. -/
def setArr : Array Value → Nat → List Value → Array Value
  | c, _, [] => c
  | c, o, v :: r => setArr (c.setIfInBounds o v) (o + 1) r
theorem setArr_size : ∀ (vs : List Value) (c : Array Value) (o : Nat), (setArr c o vs).size = c.size
  | [], _, _ => rfl
  | v :: r, c, o => by rw [setArr, setArr_size r]; simp
theorem Blk.sets {g : Nat} {t : TypeId} : ∀ (vs : List Value) (o : Nat) (w : World) (cs : Array Value), Blk w g t cs → Blk (w.setCells g o vs) g t (setArr cs o vs)
  | [], _, _, _, h => h
  | v :: r, o, w, cs, h => by
    rw [World.setCells, setArr]
    exact Blk.sets r (o + 1) _ _ (h.set o v)
theorem setArr_list : ∀ (vs X A C : List Value), X.length = vs.length → (setArr (A ++ (X ++ C)).toArray A.length vs).toList = A ++ (vs ++ C)
  | [], [], _, _, _ => by simp [setArr]
  | v :: r, x :: X, A, C, h => by
    have h1 : ((A ++ (x :: X ++ C)).toArray.setIfInBounds A.length v) = ((A ++ [v]) ++ (X ++ C)).toArray := by
      apply Array.ext'
      simp
    rw [setArr, h1]
    have := setArr_list r X (A ++ [v]) C (by simpa using h)
    simp only [List.length_append, List.length_cons, List.length_nil, Nat.zero_add] at this
    rw [this]
    simp
  | [], _ :: _, _, _, h => by simp at h
  | _ :: _, [], _, _, h => by simp at h
theorem setArr_mid (cs : Array Value) (o : Nat) (vs : List Value) (h : o + vs.length ≤ cs.size) : (setArr cs o vs).toList = cs.toList.take o ++ (vs ++ cs.toList.drop (o + vs.length)) := by
  have hl : cs.toList.length = cs.size := by simp
  have e : cs = (cs.toList.take o ++ ((cs.toList.drop o).take vs.length ++ cs.toList.drop (o + vs.length))).toArray := by
    apply Array.ext'
    show cs.toList = cs.toList.take o ++ ((cs.toList.drop o).take vs.length ++ cs.toList.drop (o + vs.length))
    rw [← List.drop_drop, List.take_append_drop, List.take_append_drop]
  have := setArr_list vs ((cs.toList.drop o).take vs.length) (cs.toList.take o) (cs.toList.drop (o + vs.length)) (by simp; omega)
  rw [← e, List.length_take, Nat.min_eq_left (by omega)] at this
  exact this

/-- An element of a row is written. -/
theorem own_set {α : Type} {w : World} {B : Nat} {e : TypeId} {n : Nat} {v : Value} {f : α → List Value} {l : List α} (h : w.ownsRow B e n v l.length (l.flatMap f)) (hl : ∀ x ∈ l, (f x).length = n)
    {g : Nat} (hg : v.ownBlock = some g) (k : Nat) (hk : k < l.length) (y : α) (hy : (f y).length = n) :
    (w.setCells g (k * n) (f y)).ownsRow B e n v l.length ((l.set k y).flatMap f) := by
  have hls : ∀ x ∈ l.set k y, (f x).length = n := fun x hx => by
    rcases List.mem_or_eq_of_mem_set hx with hx | rfl
    · exact hl x hx
    · exact hy
  refine ⟨by rw [flat_length f n _ hls, List.length_set], ?_⟩
  rcases h.2 with ⟨rfl, h0⟩ | ⟨g', cap, cur, rfl, hb, hh, h1, h2, h3, h4⟩
  · simp [Value.ownBlock] at hg
  · simp [Value.ownBlock] at hg
    subst hg
    have hlen : l.length * n ≤ cur.size := by
      have := h.1
      rw [← h4, List.length_take] at this
      have hcl : cur.toList.length = cur.size := by simp
      omega
    have hkn : k * n + n ≤ l.length * n := by
      have := Nat.mul_le_mul_right n (show k + 1 ≤ l.length from hk)
      rw [Nat.add_mul] at this
      omega
    refine .inr ⟨g', cap, setArr cur (k * n) (f y), rfl, hb, Blk.sets (f y) (k * n) w cur hh, h1, h2, by rw [setArr_size]; exact h3, ?_⟩
    rw [setArr_mid cur (k * n) (f y) (by omega), hy]
    have e1 : l.set k y = l.take k ++ (y :: l.drop (k + 1)) := by rw [List.set_eq_take_append_cons_drop, if_pos hk]
    rw [e1, List.flatMap_append, List.flatMap_cons, ← flat_take f n l k hl, ← flat_skip f n l (k + 1) hl, ← h4]
    have hcl : cur.toList.length = cur.size := by simp
    rw [List.take_append, List.length_take, Nat.min_eq_left (by omega), List.take_take, List.take_take, Nat.min_eq_right (by omega), Nat.min_eq_left (by omega)]
    congr 1
    rw [List.take_append, hy]
    rw [List.take_of_length_le (by omega)]
    congr 1
    rw [List.drop_take, show (k + 1) * n = k * n + n by rw [Nat.add_mul]; omega]
    congr 1
    omega
/-- A whole array or struct into the block that was made last. -/
theorem wpList_store_new {P : Program} {ops : Array Oper} {rest : List Oper} {op : Oper} {a : Act} {Q : Exit → Act → World → Prop} (w0 : World) (t : TypeId) (c0 cells : Array Value) (hgd : op.guard = none) (x y : Operand)
    (ho : op.op = .store t x y) (hx : a.eval x = .pointer (some ⟨w0.heap.size, 0, none⟩)) (hy : a.eval y = .agg cells) (hi : (P.info? t).map (·.size) = some cells.size) (hs : c0.size = cells.size)
    (h1 : ∀ v ∈ cells.toList, v.oneCell' = true) (h : wpList P ops Q rest (a.put op.dst undef) (w0.alloc (.cells cells t))) : wpList P ops Q (op :: rest) a (w0.alloc (.cells c0 t)) :=
  wpList_plain hgd fun K hK => by
    unfold Oper.wp execOp
    simp only [ho, hx, hy, Instr.storeAt, Instr.sureAddr, Sem.run_bind, Sem.run_pure, Result.andThen_ok, run_storeVar_new w0 t c0 cells hi hs (Array.all_eq_true_iff_forall_mem.2 (fun v hv => h1 v (by simpa using hv)))]
    exact hK _ _ h
theorem setArr_all (c : Array Value) (vs : List Value) (h : c.size = vs.length) : setArr c 0 vs = vs.toArray := by
  apply Array.ext'
  rw [setArr_mid c 0 vs (by omega)]
  have hl : c.toList.length = c.size := by simp
  simp only [List.take_zero, List.nil_append, Nat.zero_add]
  rw [List.drop_of_length_le (by omega), List.append_nil]
/-- A block is written whole. -/
theorem Blk.sets_all {w : World} {g : Nat} {t : TypeId} {cs : Array Value} {vs : List Value} (h : Blk w g t cs) (hs : cs.size = vs.length) : Blk (w.setCells g 0 vs) g t vs.toArray := by
  have := Blk.sets vs 0 w cs h
  rwa [setArr_all cs vs hs] at this
/-- Three results, the first one a struct or an array in memory. -/
theorem results_cell2 {P : Program} {fn : Func} {p : Tmp} {ty : TypeId} {t u : Tmp} (h : fn.results = #[.cell p ty, .tmp t, .tmp u]) (tmps : Array Value) (w : World) (g : Nat) (t0 : TypeId) (cs : Array Value) (d : TypeDesc)
    (hp : tmps.getD p undef = .pointer (some ⟨g, 0, none⟩)) (hg : Blk w g t0 cs) (hu : P.underlying ty = some d) (hd : (match d with | .struct _ | .array _ _ => true | _ => false) = true) (hi : (P.info? ty).map (·.size) = some cs.size) :
    (results fn tmps).run P w = .ok (.tuple #[.agg cs, tmps.getD t undef, tmps.getD u undef]) w := by
  have hp' : tmps[p]?.getD undef = .pointer (some ⟨g, 0, none⟩) := by simpa using hp
  simp [results, h, hp', asAddr, run_loadVar_row w g t0 ty cs (0, 0) d hg hu hd hi]

/-- What a cell holds, said of itself. -/
def cellOf (w : World) (a : Addr) : Value := (w.cell? a).getD undef
theorem cellOf_some {w : World} {a : Addr} {v : Value} (h : w.cell? a = some v) : w.cell? a = some (cellOf w a) := by
  rw [cellOf, h]; rfl
/-- Block g has n cells of type t's that can be written. -/
def Room (w : World) (g : Nat) (t : TypeId) (n : Nat) : Prop := ∃ cs, Blk w g t cs ∧ cs.size = n
theorem Room.cell {w : World} {g n : Nat} {t : TypeId} (h : Room w g t n) (i : Nat) (hi : i < n) : w.cell? ⟨g, i, none⟩ = some (cellOf w ⟨g, i, none⟩) := by
  obtain ⟨cs, hb, hs⟩ := h
  refine cellOf_some (v := cs[i]'(by omega)) ?_
  rw [hb.cell]
  simp [hs, hi]
theorem Room.frozen {w : World} {g n : Nat} {t : TypeId} (h : Room w g t n) (i : Nat) : w.frozen? ⟨g, i, none⟩ = false := by
  obtain ⟨cs, hb, hs⟩ := h
  exact hb.frozen i
theorem Room.ext {S : Nat → Prop} {w w' : World} {g n : Nat} {t : TypeId} (h : Room w g t n) (he : Ext S w w') (hn : ¬ S g) : Room w' g t n := by
  obtain ⟨cs, hb, hs⟩ := h
  exact ⟨cs, hb.ext he hn, hs⟩
theorem Room.set {w : World} {g n : Nat} {t : TypeId} (h : Room w g t n) (i : Nat) (v : Value) : Room (w.setCell ⟨g, i, none⟩ v) g t n := by
  obtain ⟨cs, hb, hs⟩ := h
  exact ⟨_, hb.set i v, by simp [hs]⟩
theorem Room.four {w : World} {g : Nat} {t : TypeId} (h : Room w g t 4) (a b c d : Value) :
    Blk ((((w.setCell ⟨g, 0, none⟩ a).setCell ⟨g, 1, none⟩ b).setCell ⟨g, 2, none⟩ c).setCell ⟨g, 3, none⟩ d) g t #[a, b, c, d] := by
  obtain ⟨⟨l⟩, hb, hs⟩ := h
  match l, hs with
  | [x, y, z, u], _ =>
    have := (((hb.set 0 a).set 1 b).set 2 c).set 3 d
    simpa using this
theorem Bytes.of_own {w : World} {B : Nat} {e : TypeId} {v : Value} {l : List UInt8} (h : w.ownsRow B e 1 v l.length (l.map bv)) : Bytes (fun b => B ≤ b) w v l := by
  rcases h.2 with ⟨rfl, h0⟩ | ⟨g, cap, cur, rfl, hb, hh, h1, _⟩
  · have : l = [] := List.eq_nil_of_length_eq_zero h0
    subst this
    exact Bytes.nil _ _
  · exact ⟨_, cap, rfl, h1, fun _ => ⟨g, 0, rfl, hb, own_range h rfl⟩⟩
end Go.Proofs.Ytmhhfhmpdpgmbaa
