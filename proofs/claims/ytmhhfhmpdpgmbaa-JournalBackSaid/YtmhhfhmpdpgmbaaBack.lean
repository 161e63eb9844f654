/- JournalBack: the walk. -/
import Derived.Test.YtmhhfhmpdpgmbaaBackP
import Derived.Test.YtmhhfhmpdpgmbaaKeepM
namespace Go.Proofs.Ytmhhfhmpdpgmbaa
open Go.RowKit

/-- A text as the law takes it. -/
def cut30 (s : ByteArray) : ByteArray := if 30 < s.size then s.extract 0 30 else s
/-- Texts as the law takes them. -/
def took (l : List ByteArray) : List ByteArray := (l.take 40).map cut30
theorem cut30_size (s : ByteArray) : (cut30 s).size ≤ 30 := by
  unfold cut30
  split
  · rw [ByteArray.size_extract]; omega
  · omega
theorem took_length (l : List ByteArray) : (took l).length ≤ 40 := by
  unfold took
  rw [List.length_map, List.length_take]
  omega
theorem took_small (l : List ByteArray) : ∀ s ∈ took l, s.size ≤ 30 := fun s hs => by
  unfold took at hs
  obtain ⟨x, _, rfl⟩ := List.mem_map.1 hs
  exact cut30_size x
theorem took_packs (l : List ByteArray) : packErr (took l) = 0 ∧ (packB (took l)).length ≤ 1280 ∧ (∀ s ∈ took l, s.size ≤ 1000) ∧ (took l).length ≤ 100 := by
  have h1 := took_length l
  have h2 := took_small l
  have h4 : ∀ s ∈ took l, s.size ≤ 1000 := fun s hs => by have := h2 s hs; omega
  have h3 : (packB (took l)).length ≤ 32 * (took l).length := by
    have : ∀ (m : List ByteArray), (∀ s ∈ m, s.size ≤ 30) → (packB m).length ≤ 32 * m.length := by
      intro m
      induction m with
      | nil => intro _; simp [packB]
      | cons s m ih =>
        intro h
        have h5 := ih (fun s hs => h s (List.mem_cons_of_mem _ hs))
        have h6 := h s (List.mem_cons_self ..)
        have h7 := packOne_length s
        have : packB (s :: m) = packOne s ++ packB m := by simp [packB]
        rw [this, List.length_append, List.length_cons]
        omega
    exact this _ h2
  refine ⟨?_, by omega, h4, by omega⟩
  unfold packErr
  rw [if_neg (by omega), if_neg, if_neg (by omega)]
  intro h
  obtain ⟨s, hs, hd⟩ := List.any_eq_true.1 h
  have := h4 s hs
  have := of_decide_eq_true hd
  omega

/-- The two rows of texts. -/
structure BackR (B : Nat) (w : World) (g gb : Nat) (va vb : Value) (l0 l1 : List ByteArray) (v0 v1 : Value) (wr : World) : Prop where
  blk : Blk wr g 58 #[v0, v1]
  arg : Blk wr gb 56 #[va, vb]
  o0 : wr.ownsRow B 9 1 v0 l0.length (l0.map Value.string)
  o1 : wr.ownsRow B 9 1 v1 l1.length (l1.map Value.string)
  sep : Sep v0 v1
  hg : B ≤ g
  hb : B = w.heap.size
  ext : Ext NoS w wr
theorem infoStr1 : (Try.prog.info? 9).map (fun i => (i.zero, i.size, i.bytes)) = some (some (.string ByteArray.empty), 1, 16) := infoStr
section
variable {B : Nat} {w wr w6 : World} {g gb : Nat} {va vb v0 v1 v' : Value} {l0 l1 : List ByteArray} {s : ByteArray}
theorem BackR.no (h : BackR B w g gb va vb l0 l1 v0 v1 wr) (he : Ext NoS wr w6) : BackR B w g gb va vb l0 l1 v0 v1 w6 :=
  { h with blk := h.blk.ext he (fun h => h), arg := h.arg.ext he (fun h => h), o0 := own_ext h.o0 he (fun _ _ h => h), o1 := own_ext h.o1 he (fun _ _ h => h), ext := h.ext.trans' he }
theorem sep_sym (h : Sep v0 v1) : Sep v1 v0 := fun g h1 h2 => h g h2 h1
theorem own_lt {e : TypeId} {size n : Nat} {v : Value} {xs : List Value} (h : w.ownsRow B e size v n xs) {x : Nat} (hx : v.ownBlock = some x) : x < w.heap.size := by
  obtain ⟨cur, hc, _⟩ := own_blk h hx
  exact hc.lt
theorem BackR.push0 (h : BackR B w g gb va vb l0 l1 v0 v1 wr) {o : Obj} (hg : (wr.alloc o).grownBy w6 v0.ownBlock) (ho : w6.ownsRow B 9 1 v' (l0.length + 1) (l0.map Value.string ++ [.string s]))
    (hor : v'.ownBlock = v0.ownBlock ∨ v'.ownBlock = some (wr.alloc o).heap.size) : BackR B w g gb va vb (l0 ++ [s]) l1 v' v1 (w6.setCell ⟨g, 0, none⟩ v') := by
  have hx := ext_push hg
  have hb6 := h.blk.ext hx (fun e => own_ne h.o0 h.blk (by decide) e)
  have ha6 := h.arg.ext hx (fun e => own_ne h.o0 h.arg (by decide) e)
  have h6 := ext_setCell w6 g 0 v'
  have ho1 := own_ext h.o1 hx (fun x hx' e => h.sep x hx' e)
  refine ⟨by simpa using hb6.set 0 v', ha6.far (fun e => ha6.ne_ hb6 (by decide) e) v', ?_, own_ext ho1 h6 (fun x hx' e => own_ne ho1 hb6 (by decide) (e ▸ hx')), ?_, h.hg, h.hb, ?_⟩
  · have := own_ext ho h6 (fun x hx' e => own_ne ho hb6 (by decide) (e ▸ hx'))
    simpa using this
  · intro x hx1 hx2
    rcases hor with e | e
    · exact h.sep x hx1 (e ▸ hx2)
    · have := own_lt h.o1 hx1
      rw [e] at hx2
      injection hx2 with hx2
      simp at hx2
      omega
  · have hB := h.hb
    have hgB := h.hg
    exact (h.ext.trans hx (fun i hi e => by have := own_base h.o0 e; omega)).trans h6 (fun i hi e => by have e : i = g := e; omega)
theorem BackR.push1 (h : BackR B w g gb va vb l0 l1 v0 v1 wr) {o : Obj} (hg : (wr.alloc o).grownBy w6 v1.ownBlock) (ho : w6.ownsRow B 9 1 v' (l1.length + 1) (l1.map Value.string ++ [.string s]))
    (hor : v'.ownBlock = v1.ownBlock ∨ v'.ownBlock = some (wr.alloc o).heap.size) : BackR B w g gb va vb l0 (l1 ++ [s]) v0 v' (w6.setCell ⟨g, 1, none⟩ v') := by
  have hx := ext_push hg
  have hb6 := h.blk.ext hx (fun e => own_ne h.o1 h.blk (by decide) e)
  have ha6 := h.arg.ext hx (fun e => own_ne h.o1 h.arg (by decide) e)
  have h6 := ext_setCell w6 g 1 v'
  have ho0 := own_ext h.o0 hx (fun x hx' e => h.sep x e hx')
  refine ⟨by simpa using hb6.set 1 v', ha6.far (fun e => ha6.ne_ hb6 (by decide) e) v', own_ext ho0 h6 (fun x hx' e => own_ne ho0 hb6 (by decide) (e ▸ hx')), ?_, ?_, h.hg, h.hb, ?_⟩
  · have := own_ext ho h6 (fun x hx' e => own_ne ho hb6 (by decide) (e ▸ hx'))
    simpa using this
  · intro x hx1 hx2
    rcases hor with e | e
    · exact h.sep x (e ▸ hx1) hx2
    · have := own_lt h.o0 hx2
      rw [e] at hx1
      injection hx1 with hx1
      simp at hx1
      omega
  · have hB := h.hb
    have hgB := h.hg
    exact (h.ext.trans hx (fun i hi e => by have := own_base h.o1 e; omega)).trans h6 (fun i hi e => by have e : i = g := e; omega)
end
theorem took_succ (a : List ByteArray) (k : Nat) (h : k < a.length) : (a.take (k + 1)).map cut30 = (a.take k).map cut30 ++ [cut30 a[k]] := by
  rw [List.take_succ_eq_append_getElem h, List.map_append]
  rfl
theorem took_end (a : List ByteArray) (k : Nat) (h : k = a.length ∨ k = 40) (hk : k ≤ 40) : (a.take k).map cut30 = took a := by
  unfold took
  rcases h with rfl | rfl
  · rw [List.take_of_length_le (Nat.le_refl _), List.take_of_length_le hk]
  · rfl
theorem text_at {K : Nat → Prop} {w : World} {A : Option Addr} {n c k : Nat} {l : List ByteArray} (h : Texts K w (.slice A n c) l) (hk : k < l.length) : ∃ b o, A = some ⟨b, o, none⟩ ∧ w.cell? ⟨b, o + k, none⟩ = some (.string l[k]) := by
  obtain ⟨A', c', hv, _, h⟩ := h
  injection hv with hA _ _
  subst hA
  obtain ⟨b, o, h1, _, h3⟩ := h (by intro h; rw [h] at hk; simp at hk)
  exact ⟨b, o, h1, h3 k _ (by simp [hk])⟩

theorem pack_small (K : Nat → Prop) (l : List ByteArray) (v : Value) (w : World) (h : Texts K w v l) (he : packErr l = 0) : Calls Try.prog 22 #[v] w fun e w' => ∃ A c, e = .returned (.tuple #[.slice A (packB l).length c, .int .i64 0]) ∧ Ext NoS w w' ∧
    w'.ownsRow w.heap.size 5 1 (.slice A (packB l).length c) (packB l).length ((packB l).map bv) :=
  (pack_t K l v w h).mono fun e w' ⟨v', h1, h2, h3⟩ => by
    rw [he] at h1 h3
    rw [if_pos rfl] at h3
    obtain ⟨A, c, rfl, _, _⟩ := own_slice h3
    exact ⟨A, c, h1, h2, h3⟩
theorem unpack_some (K : Nat → Prop) (l : List UInt8) (ts : List ByteArray) (v : Value) (w : World) (h : Bytes K w v l) (he : unpackB l = some ts) : Calls Try.prog 23 #[v] w fun e w' => ∃ A c, e = .returned (.tuple #[.slice A ts.length c, .int .i64 0]) ∧ Ext NoS w w' ∧
    w'.ownsRow w.heap.size 9 1 (.slice A ts.length c) ts.length (ts.map Value.string) :=
  (unpack_t K l v w h).mono fun e w' ⟨h1, h2⟩ => by
    rw [he] at h2
    obtain ⟨v', h3, h4⟩ := h2
    obtain ⟨A, c, rfl, _, _⟩ := own_slice h4
    exact ⟨A, c, h3, h1, h4⟩
theorem unpack_none (K : Nat → Prop) (l : List UInt8) (v : Value) (w : World) (h : Bytes K w v l) (he : unpackB l = none) : Calls Try.prog 23 #[v] w fun e w' => e = .returned (.tuple #[.slice none 0 0, .int .i64 421]) ∧ Ext NoS w w' :=
  (unpack_t K l v w h).mono fun e w' ⟨h1, h2⟩ => by
    rw [he] at h2
    exact ⟨h2, h1⟩
theorem Bytes.cut {K : Nat → Prop} {w : World} {A : Option Addr} {n c k : Nat} {l : List UInt8} (h : Bytes K w (.slice A n c) l) (hk : k ≤ l.length) : Bytes K w (.slice A k c) (l.take k) := by
  obtain ⟨A', c', hv, hc, h⟩ := h
  injection hv with hA _ hc'
  subst hA hc'
  refine ⟨A, c, by rw [List.length_take, Nat.min_eq_left hk], by rw [List.length_take]; omega, fun hn => ?_⟩
  obtain ⟨b, o, h1, h2, h3⟩ := h (fun e => hn (by rw [e]; simp))
  exact ⟨b, o, h1, h2, by rw [List.map_take]; exact range_take h3 k⟩
theorem Texts.cut {K : Nat → Prop} {w : World} {A : Option Addr} {n c k : Nat} {l : List ByteArray} (h : Texts K w (.slice A n c) l) (hk : k ≤ l.length) : Texts K w (.slice A k c) (l.take k) := by
  obtain ⟨A', c', hv, hc, h⟩ := h
  injection hv with hA _ hc'
  subst hA hc'
  refine ⟨A, c, by rw [List.length_take, Nat.min_eq_left hk], by rw [List.length_take]; omega, fun hn => ?_⟩
  obtain ⟨b, o, h1, h2, h3⟩ := h (fun e => hn (by rw [e]; simp))
  exact ⟨b, o, h1, h2, by rw [List.map_take]; exact range_take h3 k⟩

set_option maxRecDepth 100000 in
set_option maxHeartbeats 8000000 in
theorem back_t (A1 A2 : Option Addr) (c1 c2 : Nat) (a b : List ByteArray) (ct : Nat) (w : World) (h1 : Texts (fun _ => True) w (.slice A1 a.length c1) a) (h2 : Texts (fun _ => True) w (.slice A2 b.length c2) b) (hct : ct < 65536)
    (ha : a.length ≤ 9223372036854775807) (hb : b.length ≤ 9223372036854775807) :
    Calls Try.prog 6 #[.slice A1 a.length c1, .slice A2 b.length c2, .int .u16 ct] w fun e w' => e = .returned (.bool true) ∧ Ext NoS w w' := by
  have HA := hide h1
  have HC := hide h2
  clear h1 h2
  obtain ⟨B, hB⟩ : ∃ B, B = w.heap.size := ⟨_, rfl⟩
  have HB := hide hB
  have hBR : BackR B w w.heap.size (w.heap.size + 1) (.slice A1 a.length c1) (.slice A2 b.length c2) [] [] (.slice none 0 0) (.slice none 0 0) ((w.alloc (.cells #[.slice none 0 0, .slice none 0 0] 58)).alloc (.cells #[.slice A1 a.length c1, .slice A2 b.length c2] 56)) :=
    ⟨(Blk.new w _ _).alloc _, by have := Blk.new (w.alloc (.cells #[.slice none 0 0, .slice none 0 0] 58)) 56 #[.slice A1 a.length c1, .slice A2 b.length c2]; simpa using this, World.ownsRow_nil _ _ _ _, World.ownsRow_nil _ _ _ _, fun g h => by simp [Value.ownBlock] at h, by omega, hB, ((Ext.refl _ _).alloc _).alloc _⟩
  have HBR := hide hBR
  clear hB hBR
  go_enter Try.func6, Try.ntmps6
  go_upto_region 3 with fail
  obtain ⟨g, hg⟩ : ∃ g, g = w.heap.size := ⟨_, rfl⟩
  obtain ⟨gb, hgb⟩ : ∃ x, x = g + 1 := ⟨_, rfl⟩
  rw [← hg] at HBR ⊢
  rw [← hgb] at HBR ⊢
  clear hg hgb
  refine wp_world (fun W => BackR B w g gb (.slice A1 a.length c1) (.slice A2 b.length c2) [] [] (.slice none 0 0) (.slice none 0 0) W) HBR.out ?_
  intro W0 hR0
  have HR0 := hide hR0
  clear HBR hR0
  go_loopw [27] (fun v27 wr => (v27 = .int .i64 0 ∧ ∃ v0 v1, BackR B w g gb (.slice A1 a.length c1) (.slice A2 b.length c2) [] [] v0 v1 wr) ∨ (v27 = .int .i64 1 ∧ ∃ v0 v1, BackR B w g gb (.slice A1 a.length c1) (.slice A2 b.length c2) (took a) [] v0 v1 wr) ∨
    (v27 = .int .i64 2 ∧ ∃ v0 v1, BackR B w g gb (.slice A1 a.length c1) (.slice A2 b.length c2) (took a) (took b) v0 v1 wr)) (fun v _ => 2 - (intOf v).toNat)
  case atStart => exact .inl ⟨rfl, _, _, HR0.out⟩
  case round =>
    clear HR0
    rcases hrel with ⟨rfl, v0, v1, hR⟩ | ⟨rfl, v0, v1, hR⟩ | ⟨rfl, v0, v1, hR⟩
    · have HR := hide hR
      clear hR
      go_upto_block 1 with fail
      go_cut [] (fun w' => ∃ v0 v1, BackR B w g gb (.slice A1 a.length c1) (.slice A2 b.length c2) (took a) [] v0 v1 w')
      case first =>
        have k0 := HR.out.arg.cell 0
        simp at k0
        go_upto_region 6 with fail
        clear k0
        go_loopw [34] (fun v34 w' => ∃ (k : Nat) (v0 v1 : Value), v34 = .int .i64 k ∧ k ≤ a.length ∧ k ≤ 40 ∧ BackR B w g gb (.slice A1 a.length c1) (.slice A2 b.length c2) ((a.take k).map cut30) [] v0 v1 w') (fun v _ => a.length - (intOf v).toNat)
        case atStart => exact ⟨0, _, _, rfl, Nat.zero_le _, by decide, HR.out⟩
        case round =>
          clear HR
          obtain ⟨k, v0, v1, rfl, hk, hk40, hR⟩ := hrel
          have HR := hide hR
          clear hR
          by_cases hlt : k < a.length
          · have hlti : (k : Int) < (a.length : Int) := by omega
            obtain ⟨bb, oo, rfl, q0⟩ := text_at HA.out hlt
            have q0 := HR.out.ext.cell q0 (fun h => h)
            obtain ⟨s, hs⟩ : ∃ s, s = a[k] := ⟨_, rfl⟩
            rw [← hs] at q0
            have HS := hide hs
            clear hs
            by_cases h40 : k = 40
            · subst h40
              go_wp2
              go_meet
              rw [took_end a 40 (.inr rfl) (by decide)] at HR
              exact ⟨_, _, HR.out⟩
            · have h40i : ¬ (k : Int) = 40 := by omega
              have k1 := HR.out.blk.cell 0
              simp at k1
              by_cases h30 : 30 < s.size
              · have h30i : (30 : Int) < (s.size : Int) := by omega
                have hc : cut30 s = s.extract 0 30 := if_pos h30
                have HC30 := hide hc
                clear hc h30
                go_wp2_with (at_builtin; refine Hid.out ?_)
                refine hide ?_
                refine wpList_append_any rfl _ _ 56 rfl B 9 _ 1 16 Try.underlying56 infoStr1 rfl (by decide) _ _ _ rfl (own_ext HR.out.o0 ((Ext.refl NoS wr).alloc _) (fun _ _ h => h)) (some ⟨wr.heap.size, 0, none⟩) 1 1 [.string (s.extract 0 30)] rfl rfl (fun _ => ⟨_, _, rfl, (Blk.new wr _ _).all⟩) (by simp [Value.oneCell']) (by simp; unfold maxLen; omega) (by simp; omega) (by have := HR.out.hb; have := HR.out.ext.size; simp; omega) ?_
                intro v' w6 ho6 hg6 hor6
                obtain ⟨A6, c6, rfl, _, _⟩ := own_slice ho6
                have hb6 := HR.out.blk.ext (ext_push hg6) (fun e => own_ne HR.out.o0 HR.out.blk (by decide) e)
                have f1 := hb6.frozen 0
                have k6 := hb6.cell 0
                simp at k6
                have hR7 := HR.out.push0 hg6 ho6 hor6
                rw [← HC30.out, HS.out, ← took_succ a k hlt, show (List.map cut30 (List.take k a)).length = k by simp; omega] at hR7
                have HR7 := hide hR7
                clear ho6 hg6 hor6 hb6 hR7
                go_wp2
                go_roundw
                case rel => exact ⟨k + 1, _, _, by go_num, hlt, by omega, HR7.out⟩
                case measure => simp [intOf]; omega
              · have h30i : ¬ (30 : Int) < (s.size : Int) := by omega
                have hc : cut30 s = s := if_neg h30
                have HC30 := hide hc
                clear hc h30
                go_wp2_with (at_builtin; refine Hid.out ?_)
                refine hide ?_
                refine wpList_append_any rfl _ _ 56 rfl B 9 _ 1 16 Try.underlying56 infoStr1 rfl (by decide) _ _ _ rfl (own_ext HR.out.o0 ((Ext.refl NoS wr).alloc _) (fun _ _ h => h)) (some ⟨wr.heap.size, 0, none⟩) 1 1 [.string s] rfl rfl (fun _ => ⟨_, _, rfl, (Blk.new wr _ _).all⟩) (by simp [Value.oneCell']) (by simp; unfold maxLen; omega) (by simp; omega) (by have := HR.out.hb; have := HR.out.ext.size; simp; omega) ?_
                intro v' w6 ho6 hg6 hor6
                obtain ⟨A6, c6, rfl, _, _⟩ := own_slice ho6
                have hb6 := HR.out.blk.ext (ext_push hg6) (fun e => own_ne HR.out.o0 HR.out.blk (by decide) e)
                have f1 := hb6.frozen 0
                have k6 := hb6.cell 0
                simp at k6
                have hR7 := HR.out.push0 hg6 ho6 hor6
                rw [← HC30.out, HS.out, ← took_succ a k hlt, show (List.map cut30 (List.take k a)).length = k by simp; omega] at hR7
                have HR7 := hide hR7
                clear ho6 hg6 hor6 hb6 hR7
                go_wp2
                go_roundw
                case rel => exact ⟨k + 1, _, _, by go_num, hlt, by omega, HR7.out⟩
                case measure => simp [intOf]; omega
          · have hkl : k = a.length := by omega
            have hlti : ¬ (k : Int) < (a.length : Int) := by omega
            go_wp2
            go_meet
            rw [took_end a k (.inl hkl) hk40] at HR
            exact ⟨_, _, HR.out⟩
      case rest =>
        obtain ⟨v0, v1, hR⟩ := hcut
        have HR2 := hide hR
        clear hR
        go_wp2
        go_roundw
        case rel => exact .inr (.inl ⟨rfl, _, _, HR2.out⟩)
        case measure => simp [intOf]
    · have HR := hide hR
      clear hR
      go_upto_block 1 with fail
      go_cut [] (fun w' => ∃ v0 v1, BackR B w g gb (.slice A1 a.length c1) (.slice A2 b.length c2) (took a) (took b) v0 v1 w')
      case first =>
        have k0 := HR.out.arg.cell 1
        simp at k0
        go_upto_region 6 with fail
        clear k0
        go_loopw [34] (fun v34 w' => ∃ (k : Nat) (v0 v1 : Value), v34 = .int .i64 k ∧ k ≤ b.length ∧ k ≤ 40 ∧ BackR B w g gb (.slice A1 a.length c1) (.slice A2 b.length c2) (took a) ((b.take k).map cut30) v0 v1 w') (fun v _ => b.length - (intOf v).toNat)
        case atStart => exact ⟨0, _, _, rfl, Nat.zero_le _, by decide, HR.out⟩
        case round =>
          clear HR
          obtain ⟨k, v0, v1, rfl, hk, hk40, hR⟩ := hrel
          have HR := hide hR
          clear hR
          by_cases hlt : k < b.length
          · have hlti : (k : Int) < (b.length : Int) := by omega
            obtain ⟨bb, oo, rfl, q0⟩ := text_at HC.out hlt
            have q0 := HR.out.ext.cell q0 (fun h => h)
            obtain ⟨s, hs⟩ : ∃ s, s = b[k] := ⟨_, rfl⟩
            rw [← hs] at q0
            have HS := hide hs
            clear hs
            by_cases h40 : k = 40
            · subst h40
              go_wp2
              go_meet
              rw [took_end b 40 (.inr rfl) (by decide)] at HR
              exact ⟨_, _, HR.out⟩
            · have h40i : ¬ (k : Int) = 40 := by omega
              have k1 := HR.out.blk.cell 1
              simp at k1
              by_cases h30 : 30 < s.size
              · have h30i : (30 : Int) < (s.size : Int) := by omega
                have hc : cut30 s = s.extract 0 30 := if_pos h30
                have HC30 := hide hc
                clear hc h30
                go_wp2_with (at_builtin; refine Hid.out ?_)
                refine hide ?_
                refine wpList_append_any rfl _ _ 56 rfl B 9 _ 1 16 Try.underlying56 infoStr1 rfl (by decide) _ _ _ rfl (own_ext HR.out.o1 ((Ext.refl NoS wr).alloc _) (fun _ _ h => h)) (some ⟨wr.heap.size, 0, none⟩) 1 1 [.string (s.extract 0 30)] rfl rfl (fun _ => ⟨_, _, rfl, (Blk.new wr _ _).all⟩) (by simp [Value.oneCell']) (by simp; unfold maxLen; omega) (by simp; omega) (by have := HR.out.hb; have := HR.out.ext.size; simp; omega) ?_
                intro v' w6 ho6 hg6 hor6
                obtain ⟨A6, c6, rfl, _, _⟩ := own_slice ho6
                have hb6 := HR.out.blk.ext (ext_push hg6) (fun e => own_ne HR.out.o1 HR.out.blk (by decide) e)
                have f1 := hb6.frozen 1
                have k6 := hb6.cell 1
                simp at k6
                have hR7 := HR.out.push1 hg6 ho6 hor6
                rw [← HC30.out, HS.out, ← took_succ b k hlt, show (List.map cut30 (List.take k b)).length = k by simp; omega] at hR7
                have HR7 := hide hR7
                clear ho6 hg6 hor6 hb6 hR7
                go_wp2
                go_roundw
                case rel => exact ⟨k + 1, _, _, by go_num, hlt, by omega, HR7.out⟩
                case measure => simp [intOf]; omega
              · have h30i : ¬ (30 : Int) < (s.size : Int) := by omega
                have hc : cut30 s = s := if_neg h30
                have HC30 := hide hc
                clear hc h30
                go_wp2_with (at_builtin; refine Hid.out ?_)
                refine hide ?_
                refine wpList_append_any rfl _ _ 56 rfl B 9 _ 1 16 Try.underlying56 infoStr1 rfl (by decide) _ _ _ rfl (own_ext HR.out.o1 ((Ext.refl NoS wr).alloc _) (fun _ _ h => h)) (some ⟨wr.heap.size, 0, none⟩) 1 1 [.string s] rfl rfl (fun _ => ⟨_, _, rfl, (Blk.new wr _ _).all⟩) (by simp [Value.oneCell']) (by simp; unfold maxLen; omega) (by simp; omega) (by have := HR.out.hb; have := HR.out.ext.size; simp; omega) ?_
                intro v' w6 ho6 hg6 hor6
                obtain ⟨A6, c6, rfl, _, _⟩ := own_slice ho6
                have hb6 := HR.out.blk.ext (ext_push hg6) (fun e => own_ne HR.out.o1 HR.out.blk (by decide) e)
                have f1 := hb6.frozen 1
                have k6 := hb6.cell 1
                simp at k6
                have hR7 := HR.out.push1 hg6 ho6 hor6
                rw [← HC30.out, HS.out, ← took_succ b k hlt, show (List.map cut30 (List.take k b)).length = k by simp; omega] at hR7
                have HR7 := hide hR7
                clear ho6 hg6 hor6 hb6 hR7
                go_wp2
                go_roundw
                case rel => exact ⟨k + 1, _, _, by go_num, hlt, by omega, HR7.out⟩
                case measure => simp [intOf]; omega
          · have hkl : k = b.length := by omega
            have hlti : ¬ (k : Int) < (b.length : Int) := by omega
            go_wp2
            go_meet
            rw [took_end b k (.inl hkl) hk40] at HR
            exact ⟨_, _, HR.out⟩
      case rest =>
        obtain ⟨v0, v1, hR⟩ := hcut
        have HR2 := hide hR
        clear hR
        go_wp2
        go_roundw
        case rel => exact .inr (.inr ⟨rfl, _, _, HR2.out⟩)
        case measure => simp [intOf]
    · have HR := hide hR
      clear hR
      obtain ⟨p1, p2, p3, p4⟩ := took_packs a
      obtain ⟨r1, r2, r3, r4⟩ := took_packs b
      obtain ⟨l, hl⟩ : ∃ l, l = took a := ⟨_, rfl⟩
      obtain ⟨m, hm⟩ : ∃ l, l = took b := ⟨_, rfl⟩
      rw [← hl] at HR p1 p2 p3 p4
      rw [← hm] at HR r1 r2 r3 r4
      clear hl hm
      obtain ⟨A0, c0, rfl, hc0, _⟩ := own_slice HR.out.o0
      obtain ⟨A1', c1', rfl, _, _⟩ := own_slice HR.out.o1
      have hinj := pack_inj l m p3 p4 (by omega) r3 r4 (by omega)
      have hun := unpack_pack l p3 p4 (by omega)
      have hmore := unpack_more l p3 p4
      have hpc := fun n y (hn : n < (packB l).length) (h : unpackB ((packB l).take n) = some y) => show ∃ k, k < l.length ∧ y = l.take k by
        unfold unpackB at h
        rw [if_neg (by rw [List.length_take]; omega)] at h
        obtain ⟨k, h1, h2⟩ := unpack_piece l [] n _ y p3 (by simpa using p4) hn (Nat.le_refl _) h
        exact ⟨k, h1, by simpa using h2⟩
      obtain ⟨P, hP⟩ : ∃ P, P = packB l := ⟨_, rfl⟩
      obtain ⟨Q, hQ⟩ : ∃ P, P = packB m := ⟨_, rfl⟩
      have HP := hide hP
      have HQ := hide hQ
      have HPE := hide p1
      have HQE := hide r1
      rw [← hP] at hinj hun hmore hpc p2
      rw [← hQ] at hinj r2
      have HINJ := hide hinj
      have HUN := hide hun
      have HMORE := hide hmore
      have HPC := hide hpc
      have k0 := HR.out.blk.cell 0
      have k1 := HR.out.blk.cell 1
      simp at k0 k1
      clear hP hQ p1 r1 hinj hun hmore hpc p3 r3
      have hp1 := pack_small _ l _ wr (Texts.of_own HR.out.o0) HPE.out
      rw [← HP.out] at hp1
      have HP1 := hide hp1
      clear hp1
      go_upto_region 15 with (go_at_call 22; refine HP1.out.mono ?_; rintro e w5 ⟨A5, c5, rfl, hE5, hv5⟩; have k0 := hE5.cell k0 (fun h => h); have k1 := hE5.cell k1 (fun h => h); have HE5 := hide hE5; have HV5 := hide hv5; clear hE5 hv5)
      have hp2 := pack_small _ m _ w5 (Texts.of_own (HR.out.no HE5.out).o1) HQE.out
      rw [← HQ.out] at hp2
      have HP2 := hide hp2
      clear hp2
      go_upto_region 16 with (go_at_call 22; refine HP2.out.mono ?_; rintro e w6 ⟨A6, c6, rfl, hE6, hv6⟩; have k0 := hE6.cell k0 (fun h => h); have k1 := hE6.cell k1 (fun h => h); have HE6 := hide hE6; have HV6 := hide hv6; clear hE6 hv6)
      have hp3 := unpack_some _ P l _ w6 (Bytes.of_ownB (own_ext HV5.out HE6.out (fun _ _ h => h))) HUN.out
      have HP3 := hide hp3
      clear hp3
      go_upto_region 17 with (go_at_call 23; refine HP3.out.mono ?_; rintro e w7 ⟨A7, c7, rfl, hE7, hv7⟩; have k0 := hE7.cell k0 (fun h => h); have k1 := hE7.cell k1 (fun h => h); have HE7 := hide hE7; have HV7 := hide hv7; clear hE7 hv7)
      obtain ⟨bb, hbb⟩ : ∃ bb, bb = decide (l = m) := ⟨_, rfl⟩
      have hx7 : Ext NoS wr w7 := (HE5.out.trans' HE6.out).trans' HE7.out
      have hR7 := HR.out.no hx7
      have hP7 := own_ext (own_ext HV5.out HE6.out (fun _ _ h => h)) HE7.out (fun _ _ h => h)
      have hQ7 := own_ext HV6.out HE7.out (fun _ _ h => h)
      have ht1 : ∀ W, Ext NoS w7 W → Calls Try.prog 24 #[.slice A7 l.length c7, .slice A0 l.length c0] W fun e w' => e = .returned (.bool true) ∧ Ext NoS W w' := fun W h =>
        (sameTexts_t _ _ l l _ _ W (Texts.of_own (own_ext HV7.out h (fun _ _ h => h))) (Texts.of_own (hR7.no h).o0) (by omega)).mono fun e w' ⟨h1, h2⟩ => ⟨by rw [h1, decide_eq_true rfl], h2⟩
      have ht2 : ∀ W, Ext NoS w7 W → Calls Try.prog 24 #[.slice A0 l.length c0, .slice A1' m.length c1'] W fun e w' => e = .returned (.bool bb) ∧ Ext NoS W w' := fun W h =>
        (sameTexts_t _ _ l m _ _ W (Texts.of_own (hR7.no h).o0) (Texts.of_own (hR7.no h).o1) (by omega)).mono fun e w' ⟨h1, h2⟩ => ⟨by rw [h1, hbb], h2⟩
      have ht3 : ∀ W, Ext NoS w7 W → Calls Try.prog 25 #[.slice A5 P.length c5, .slice A6 Q.length c6] W fun e w' => e = .returned (.bool bb) ∧ Ext NoS W w' := fun W h =>
        (sameBytes_t _ _ P Q _ _ W (Bytes.of_ownB (own_ext hP7 h (fun _ _ h => h))) (Bytes.of_ownB (own_ext hQ7 h (fun _ _ h => h))) (by omega)).mono fun e w' ⟨h1, h2⟩ => ⟨by rw [h1, HINJ.out, hbb], h2⟩
      have HT1 := hide ht1
      have HT2 := hide ht2
      have HT3 := hide ht3
      have HR7 := hide hR7
      have HP7 := hide hP7
      clear ht1 ht2 ht3 hbb hx7 hR7 hP7 hQ7 HR HV5 HV6 HE5 HE6 HE7 HP1 HP2 HP3 HQ HQE
      go_cut [96] (fun v96 w' => v96 = .bool false ∧ Ext NoS w7 w')
      case first =>
        have keepS : ∀ w', Ext NoS w7 w' → Ext NoS w7 w' ∧ w'.cell? ⟨g, 0, none⟩ = some (.slice A0 l.length c0) ∧ w'.cell? ⟨g, 1, none⟩ = some (.slice A1' m.length c1') := fun w' h => ⟨h, h.cell k0 (fun h => h), h.cell k1 (fun h => h)⟩
        go_region_held3 (fun w' => Ext NoS w7 w' ∧ w'.cell? ⟨g, 0, none⟩ = some (.slice A0 l.length c0) ∧ w'.cell? ⟨g, 1, none⟩ = some (.slice A1' m.length c1'))
          (first | exact keepS _ (Ext.refl _ _).drew | exact keepS _ (by assumption))
          (first
            | (go_at_call 24; ((with_reducible refine (HT1.out _ (‹Ext NoS w7 _ ∧ _›).1).mono ?_)); rintro e' w' ⟨rfl, hE⟩; have hx := (‹Ext NoS w7 _ ∧ _›).1.trans' hE; clear hE)
            | (go_at_call 24; ((with_reducible refine (HT2.out _ (‹Ext NoS w7 _ ∧ _›).1).mono ?_)); rintro e' w' ⟨rfl, hE⟩; have hx := (‹Ext NoS w7 _ ∧ _›).1.trans' hE; clear hE)
            | (go_at_call 25; ((with_reducible refine (HT3.out _ (‹Ext NoS w7 _ ∧ _›).1).mono ?_)); rintro e' w' ⟨rfl, hE⟩; have hx := (‹Ext NoS w7 _ ∧ _›).1.trans' hE; clear hE))
        all_goals
          go_wp2_with fail
          go_meet
          exact ⟨by simp, by assumption⟩
      case rest =>
        obtain ⟨rfl, hE8⟩ := hcut
        obtain ⟨w8, h8⟩ : ∃ x, x = wc := ⟨_, rfl⟩
        subst h8
        have HR8 := hide (HR7.out.no hE8)
        have HP8 := hide (own_ext HP7.out hE8 (fun _ _ h => h))
        clear HT1 HT2 HT3 HR7 HP7 hE8 k0 k1 HV7
        obtain ⟨pl, hpl⟩ : ∃ pl, pl = P.length := ⟨_, rfl⟩
        rw [← hpl] at HP8 p2 ⊢
        have HPL := hide hpl
        obtain ⟨nn, hnn⟩ : ∃ nn, nn = ct % (pl + 1) := ⟨_, rfl⟩
        have hnb : nn ≤ pl := by rw [hnn]; have := Nat.mod_lt ct (show 0 < pl + 1 by omega); omega
        have hrem1 : Int.tmod (ct : Int) ((pl : Int) + 1) = (nn : Int) := by rw [hnn]; rfl
        have hrem2 : (ct : Int) % ((pl : Int) + 1) = (nn : Int) := by rw [hnn]; rfl
        have hc5 : pl ≤ c5 := by
          obtain ⟨A', c', hv, h1, _⟩ := own_slice HP8.out
          injection hv with _ _ h3
          omega
        have hz1 : ¬ ((pl : Int) + 1 = 0) := by omega
        clear hnn hpl
        go_upto_region 20 with fail
        clear hrem1 hrem2 hz1
        have hby : Bytes (fun x => True) w8 (.slice A5 pl c5) P := by
          have := HP8.out
          rw [HPL.out] at this ⊢
          exact (Bytes.of_ownB this).mono (fun _ _ _ => trivial)
        have HBY := hide hby
        clear hby
        go_upto_if 106 with fail
        go_cut [] (fun w' => Ext NoS w8 w')
        case first =>
          by_cases hlt : nn < pl
          · have hlti : (nn : Int) < (pl : Int) := by omega
            have hnc : (nn : Int) ≤ (c5 : Int) := by omega
            cases hu : unpackB (P.take nn) with
            | none =>
              have HT := hide (unpack_none _ (P.take nn) _ w8 (HBY.out.cut (by have := HPL.out; omega)) hu)
              clear hu
              go_wp2_with (go_at_call 23; refine HT.out.mono ?_; rintro e w9 ⟨rfl, hE9⟩)
              go_meet
              exact hE9
            | some y =>
              obtain ⟨q, hq, hy⟩ := HPC.out nn y (by have := HPL.out; omega) hu
              have hyl : y.length = q := by rw [hy, List.length_take]; omega
              have hus := unpack_some _ (P.take nn) y _ w8 (HBY.out.cut (by have := HPL.out; omega)) hu
              rw [hyl] at hus
              have HT := hide hus
              have hqi : ¬ (l.length : Int) ≤ (q : Int) := by omega
              have hqc : (q : Int) ≤ (c0 : Int) := by omega
              have HY := hide hy
              have HYL := hide hyl
              have k0 := HR8.out.blk.cell 0
              simp at k0
              clear hu hy hyl hus
              go_wp2_with (first
                | (go_at_call 23; refine HT.out.mono ?_; rintro e w9 ⟨A9, c9, rfl, hE9, hv9⟩; have k0 := hE9.cell k0 (fun h => h); have hst := sameTexts_t _ _ y (l.take q) (.slice A9 q c9) (.slice A0 q c0) w9 (by have := hv9; rw [← HYL.out] at this ⊢; exact Texts.of_own this) ((Texts.of_own (HR8.out.no hE9).o0).cut (Nat.le_of_lt hq)) (by rw [HYL.out]; omega); have HST := hide hst; have HE9 := hide hE9; clear hE9 hv9 hst)
                | (go_at_call 24; refine HST.out.mono ?_; rintro e w10 ⟨he, hE10⟩; rw [HY.out, decide_eq_true rfl] at he; subst he))
              go_meet
              exact HE9.out.trans' hE10
          · have hlti : ¬ (nn : Int) < (pl : Int) := by omega
            go_wp2
            go_meet
            exact Ext.refl _ _
        case rest =>
          obtain ⟨w9, h9⟩ : ∃ x, x = wc := ⟨_, rfl⟩
          subst h9
          have HE9 := hide hcut
          clear hcut
          have hp9 := own_ext HP8.out HE9.out (fun _ _ h => h)
          have HPM := hide (show (P.map bv).length = pl by rw [List.length_map, HPL.out])
          go_wp2_with (at_builtin; refine Hid.out ?_)
          refine hide ?_
          refine wpList_append_any rfl _ _ 46 rfl w9.heap.size 5 _ 1 1 Try.underlying46 infoB rfl (by decide) _ 0 [] rfl (own_empty w9 5 1) A5 pl c5 (P.map bv) rfl (by rw [HPM.out]; omega) (fun hn => by obtain ⟨b, o, h1, h2⟩ := own_src hp9 hn; exact ⟨b, o, h1, range_ext h2 ((Ext.refl NoS w9).alloc (.cells #[] 5)) (fun h => h)⟩) (bvs_one P) (by unfold maxLen; omega) (by omega) (by simp) ?_
          intro v10 w10 ho10 hg10 _
          have hE10 := ext_copy hg10
          simp only [Nat.zero_add, List.nil_append] at ho10
          obtain ⟨A10, c10, rfl, _, _⟩ := own_slice ho10
          have HO10 := hide ho10
          have HE10 := hide hE10
          clear ho10 hg10 hE10 hp9
          go_wp2_with (at_builtin; refine Hid.out ?_)
          refine hide ?_
          refine wpList_append_any rfl _ _ 46 rfl w9.heap.size 5 _ 1 1 Try.underlying46 infoB rfl (by decide) _ pl (P.map bv) rfl (own_ext HO10.out ((Ext.refl NoS w10).alloc _) (fun _ _ h => h)) (some ⟨w10.heap.size, 0, none⟩) 1 1 [.int .u8 0] rfl rfl (fun _ => ⟨_, _, rfl, (Blk.new w10 _ _).all⟩) (by simp [Value.oneCell']) (by unfold maxLen; omega) (by omega) (by have := HE10.out.size; simp; omega) ?_
          intro v11 w11 ho11 hg11 _
          have hx11 := ext_push hg11
          have hE11 : Ext NoS w9 w11 := HE10.out.trans hx11 (fun i hi e => by have := own_base HO10.out e; omega)
          have hby11 : Bytes (fun x => True) w11 v11 (P ++ [0]) := by
            have h1 : P.map bv ++ [.int .u8 0] = (P ++ [0]).map bv := by simp [bv]
            have h2 : pl + 1 = (P ++ [0]).length := by rw [List.length_append, ← HPL.out]; rfl
            rw [h1, h2] at ho11
            exact (Bytes.of_ownB ho11).mono (fun _ _ _ => trivial)
          have HU := hide (unpack_none _ (P ++ [0]) _ w11 hby11 HMORE.out)
          have HE11 := hide (HE9.out.trans' hE11)
          clear ho11 hg11 hx11 hE11 hby11
          go_wp2_with (first
            | (go_at_call 23; refine HU.out.mono ?_; rintro e w12 ⟨rfl, hE12⟩)
            | (go_at_call 10; refine (awake_t _).mono ?_; rintro e w13 ⟨rfl, hE13⟩))
          go_ret
          exact ⟨rfl, HR8.out.ext.trans' ((HE11.out.trans' hE12).trans' hE13)⟩
end Go.Proofs.Ytmhhfhmpdpgmbaa
