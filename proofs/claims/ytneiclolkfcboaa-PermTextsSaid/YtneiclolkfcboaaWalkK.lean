/-
  The walk of the reference's OfText; texts and masks.
-/
import Derived.Test.YtneiclolkfcboaaWalkJ
namespace Go.Proofs.Ytneiclolkfcboaa
open Go.RowKit

def low (s : ByteArray) (k : Nat) : Prop := ∀ j : Nat, j < k → j % 2 = 0 → dgt (bt s j) ≤ 3
theorem low_even {s : ByteArray} {k : Nat} (h : low s k) (h1 : dgt (bt s k) ≤ 3) : low s (k + 1) := fun j hj e => (Nat.lt_succ_iff_lt_or_eq.1 hj).elim (fun a => h j a e) (fun a => by rw [a]; exact h1)
theorem low_odd {s : ByteArray} {k : Nat} (h : low s k) (h1 : k % 2 = 1) : low s (k + 1) := fun j hj e => (Nat.lt_succ_iff_lt_or_eq.1 hj).elim (fun a => h j a e) (fun a => by omega)

theorem val_mask_of {s : ByteArray} : valTo s 8 = maskOf (dgt (bt s 0) * 16 + dgt (bt s 1)) (dgt (bt s 2) * 16 + dgt (bt s 3)) (dgt (bt s 4) * 16 + dgt (bt s 5)) (dgt (bt s 6) * 16 + dgt (bt s 7)) := by
  simp only [valTo, maskOf]
  omega
theorem two_digits {s : ByteArray} (h : hexTo s 8) (j : Nat) (hj : j < 7) : 0 ≤ dgt (bt s j) * 16 + dgt (bt s (j + 1)) ∧ dgt (bt s j) * 16 + dgt (bt s (j + 1)) < 256 := by
  have a := h j (by omega)
  have b := h (j + 1) (by omega)
  have c := dgt_bounds (bt s j)
  have d := dgt_bounds (bt s (j + 1))
  omega
theorem may_val {s : ByteArray} (h : hexTo s 8) : mayB (valTo s 8) = ofOk (dgt (bt s 0) * 16 + dgt (bt s 1)) (dgt (bt s 2) * 16 + dgt (bt s 3)) (dgt (bt s 4) * 16 + dgt (bt s 5)) (dgt (bt s 6) * 16 + dgt (bt s 7)) := by
  rw [val_mask_of]
  exact may_of (two_digits h 0 (by omega)) (two_digits h 2 (by omega)) (two_digits h 4 (by omega)) (two_digits h 6 (by omega))
theorem may_low {s : ByteArray} (h : hexTo s 8) (hl : low s 8) : mayB (valTo s 8) = true := by
  rw [may_val h]
  have b1 := dgt_bounds (bt s 1)
  have b3 := dgt_bounds (bt s 3)
  have b5 := dgt_bounds (bt s 5)
  have b7 := dgt_bounds (bt s 7)
  have a0 := hl 0 (by omega) rfl
  have a2 := hl 2 (by omega) rfl
  have a4 := hl 4 (by omega) rfl
  have a6 := hl 6 (by omega) rfl
  exact decide_eq_true (by omega)
theorem not_low {s : ByteArray} (h : OkT s) {j : Nat} (hj : j < 8) (e : j % 2 = 0) : dgt (bt s j) ≤ 3 := by
  have hm := h.2.2
  rw [may_val h.2.1] at hm
  have hd := of_decide_eq_true hm
  have b1 := h.2.1 1 (by omega)
  have b3 := h.2.1 3 (by omega)
  have b5 := h.2.1 5 (by omega)
  have b7 := h.2.1 7 (by omega)
  have hc : j = 0 ∨ j = 2 ∨ j = 4 ∨ j = 6 := by omega
  rcases hc with rfl | rfl | rfl | rfl <;> omega

theorem val_int {a b : Int} {k : IntKind} (h : a = b) : Value.int k a = Value.int k b := by rw [h]

theorem str_index (s : ByteArray) (k : Nat) (h : k < s.size) (W : World) : Sem.run Try.prog (Instr.index 9 (.string s) (.int .i64 k)) W = .ok (.int .u8 (bt s k)) W := by
  rw [run_index_string W 9 s .i64 k u9, dif_pos ⟨by omega, by omega⟩, ← bt_in s k h]
  simp

set_option maxRecDepth 100000 in
set_option maxHeartbeats 4000000 in
theorem refOfText_any (s : ByteArray) (w : World) :
    Calls Try.prog 27 #[.string s] w fun e w' => e = .returned (.tuple #[.int .u32 (ofTextM s), .int .i64 (ofTextE s)]) ∧ w = w' := by
  by_cases h8 : s.size = 8
  rotate_left
  · have G := Lib.hid (ofText_bad (s := s) (fun h => h8 h.1))
    have b8 : ((s.size : Int) == 8) = false := by simp; omega
    have n8 : ¬ (s.size : Int) = 8 := by omega
    clear h8
    go_enter Try.func27, Try.ntmps27
    go_wp2
    go_ret2
    exact ⟨ret_two G.out.1.symm G.out.2.symm, rfl⟩
  have z8 : (s.size : Int) = 8 := by omega
  go_enter Try.func27, Try.ntmps27
  go_wp2
  go_loop [4, 5] (fun v i => ∃ k : Nat, k ≤ 8 ∧ i = .int .i64 k ∧ v = .int .i64 (valTo s k) ∧ hexTo s k ∧ low s k) (fun _ i => 8 - (intOf i).toNat)
  case atStart => exact ⟨0, by omega, rfl, rfl, fun j hj => by omega, fun j hj => by omega⟩
  case round =>
    obtain ⟨k, hk, rfl, rfl, hh, hl⟩ := hrel
    have HH := Lib.hid hh
    have HL := Lib.hid hl
    clear hh hl
    by_cases hend : k = 8
    · subst hend
      have G := Lib.hid (ofText_good (s := s) ⟨h8, HH.out, may_low HH.out HL.out⟩)
      obtain ⟨v0, v1⟩ := val_mask HH.out
      go_wp2
      go_ret2
      exact ⟨ret_two (by rw [G.out.1]) G.out.2.symm, rfl⟩
    · have hlt : k < 8 := by omega
      have RI := str_index s k (by omega)
      have hb := bt_bounds s k
      obtain ⟨b0, b1⟩ := hb
      obtain ⟨v0, v1⟩ := val_small HH.out (show k ≤ 7 by omega)
      clear hend
      by_cases hA : 48 ≤ bt s k ∧ bt s k ≤ 57
      · obtain ⟨a1, a2⟩ := hA
        have D := Lib.hid (dgt_low a1 a2)
        have H1 := Lib.hid (hexTo_succ HH.out (by rw [D.out]; omega))
        by_cases he : k % 2 = 0
        · have e1 : (k : Int) % 2 = 0 := by omega
          by_cases h3 : bt s k ≤ 51
          · have L1 := Lib.hid (low_even HL.out (by rw [D.out]; omega))
            clear he
            go_wp2
            go_round
            case rel => exact ⟨k + 1, by omega, by go_num, val_int (by show _ = valTo s k * 16 + dgt (bt s k); rw [D.out]; omega), H1.out, L1.out⟩
            case measure => simp [intOf]; omega
          · have G := Lib.hid (ofText_bad (s := s) (fun h => by have := not_low h hlt he; rw [D.out] at this; omega))
            have g3 : 51 < bt s k := by omega
            clear he h3
            go_wp2
            go_ret2
            exact ⟨ret_two G.out.1.symm G.out.2.symm, rfl⟩
        · have e1 : (k : Int) % 2 = 1 := by omega
          have L1 := Lib.hid (low_odd HL.out (by omega))
          clear he
          go_wp2
          go_round
          case rel => exact ⟨k + 1, by omega, by go_num, val_int (by show _ = valTo s k * 16 + dgt (bt s k); rw [D.out]; omega), H1.out, L1.out⟩
          case measure => simp [intOf]; omega
      · by_cases hB : 97 ≤ bt s k ∧ bt s k ≤ 102
        · obtain ⟨a1, a2⟩ := hB
          have D := Lib.hid (dgt_high a1 a2)
          have H1 := Lib.hid (hexTo_succ HH.out (by rw [D.out]; omega))
          clear hA
          by_cases he : k % 2 = 0
          · have e1 : (k : Int) % 2 = 0 := by omega
            have G := Lib.hid (ofText_bad (s := s) (fun h => by have := not_low h hlt he; rw [D.out] at this; omega))
            clear he
            go_wp2
            go_ret2
            exact ⟨ret_two G.out.1.symm G.out.2.symm, rfl⟩
          · have e1 : (k : Int) % 2 = 1 := by omega
            have L1 := Lib.hid (low_odd HL.out (by omega))
            clear he
            go_wp2
            go_round
            case rel => exact ⟨k + 1, by omega, by go_num, val_int (by show _ = valTo s k * 16 + dgt (bt s k); rw [D.out]; omega), H1.out, L1.out⟩
            case measure => simp [intOf]; omega
        · have hn : dgt (bt s k) = -1 := dgt_none (by omega) (by omega)
          have G := Lib.hid (ofText_bad (s := s) (fun h => by have := h.2.1 k hlt; omega))
          have hρ : bt s k < 48 ∨ (57 < bt s k ∧ bt s k < 97) ∨ 102 < bt s k := by omega
          clear hA hB hn
          rcases hρ with h1 | ⟨h1, h2⟩ | h1
          · go_wp2
            go_ret2
            exact ⟨ret_two G.out.1.symm G.out.2.symm, rfl⟩
          · go_wp2
            go_ret2
            exact ⟨ret_two G.out.1.symm G.out.2.symm, rfl⟩
          · go_wp2
            go_ret2
            exact ⟨ret_two G.out.1.symm G.out.2.symm, rfl⟩

theorem bt_nums (xs : List Int) (j : Nat) (h : j < xs.length) (h0 : 0 ≤ xs.getD j 0) (h1 : xs.getD j 0 < 256) : bt (strOfNums xs) j = xs.getD j 0 := by
  have hz : j < (strOfNums xs).size := by rw [strOfNums_size]; exact h
  unfold bt
  rw [dif_pos hz]
  have e : (strOfNums xs)[j]'hz = UInt8.ofNat (xs.getD j 0).toNat := by
    show (strOfNums xs).data[j]'_ = _
    simp [strOfNums, List.getD, List.getElem?_eq_getElem h]
  rw [e, UInt8.toNat_ofNat']
  omega

theorem dgt_dig {n : Int} (h0 : 0 ≤ n) (h1 : n < 16) : dgt (dig n) = n := by
  unfold dig
  split
  · rw [dgt_low (by omega) (by omega)]; omega
  · rw [dgt_high (by omega) (by omega)]; omega
theorem dig_dgt {c : Int} (h : 0 ≤ dgt c) : dig (dgt c) = c := by
  unfold dgt at h ⊢
  split
  · unfold dig; rw [if_pos (by omega)]; omega
  · split
    · unfold dig; rw [if_neg (by omega)]; omega
    · rename_i a b; rw [if_neg a, if_neg b] at h; omega

theorem bt_text {p : Int} (h : IsMask p) (i : Nat) (hi : i < 4) : dgt (bt (textOf p) (2 * i)) = byt p i / 16 ∧ dgt (bt (textOf p) (2 * i + 1)) = byt p i % 16 := by
  have b := byt_bounds h i
  have d1 := dig_bounds (n := byt p i / 16) (by omega) (by omega)
  have d2 := dig_bounds (n := byt p i % 16) (by omega) (by omega)
  have g1 : (digs p 4).getD (2 * i) 0 = dig (byt p i / 16) := by
    match i, hi with
    | 0, _ => rfl
    | 1, _ => rfl
    | 2, _ => rfl
    | 3, _ => rfl
  have g2 : (digs p 4).getD (2 * i + 1) 0 = dig (byt p i % 16) := by
    match i, hi with
    | 0, _ => rfl
    | 1, _ => rfl
    | 2, _ => rfl
    | 3, _ => rfl
  have hl := digs_len p 4
  constructor
  · unfold textOf
    rw [bt_nums _ _ (by omega) (by rw [g1]; omega) (by rw [g1]; omega), g1, dgt_dig (by omega) (by omega)]
  · unfold textOf
    rw [bt_nums _ _ (by omega) (by rw [g2]; omega) (by rw [g2]; omega), g2, dgt_dig (by omega) (by omega)]

theorem text_size (p : Int) : (textOf p).size = 8 := by
  unfold textOf
  rw [strOfNums_size, digs_len]

theorem text_val {p : Int} (h : IsMask p) : valTo (textOf p) 8 = p ∧ hexTo (textOf p) 8 := by
  have t0 := bt_text h 0 (by omega)
  have t1 := bt_text h 1 (by omega)
  have t2 := bt_text h 2 (by omega)
  have t3 := bt_text h 3 (by omega)
  have b0 := byt_bounds h 0
  have b1 := byt_bounds h 1
  have b2 := byt_bounds h 2
  have b3 := byt_bounds h 3
  have m := mask_of_byt h
  simp only [Nat.mul_zero, Nat.zero_add, Nat.mul_one, Nat.reduceMul, Nat.reduceAdd] at t0 t1 t2 t3
  obtain ⟨t00, t01⟩ := t0
  obtain ⟨t10, t11⟩ := t1
  obtain ⟨t20, t21⟩ := t2
  obtain ⟨t30, t31⟩ := t3
  constructor
  · rw [val_mask_of, t00, t01, t10, t11, t20, t21, t30, t31]
    unfold maskOf
    omega
  · intro j hj
    match j, hj with
    | 0, _ => rw [t00]; omega
    | 1, _ => rw [t01]; omega
    | 2, _ => rw [t10]; omega
    | 3, _ => rw [t11]; omega
    | 4, _ => rw [t20]; omega
    | 5, _ => rw [t21]; omega
    | 6, _ => rw [t30]; omega
    | 7, _ => rw [t31]; omega

theorem text_ok {p : Int} (h : IsMask p) (hm : mayB p = true) : ofTextM (textOf p) = p ∧ ofTextE (textOf p) = 0 := by
  obtain ⟨v, hx⟩ := text_val h
  have g := ofText_good (s := textOf p) ⟨text_size p, hx, by rw [v]; exact hm⟩
  rw [v] at g
  exact g

theorem eight {α : Type} {l : List α} (h : l.length = 8) : ∃ a b c d e f g i, l = [a, b, c, d, e, f, g, i] := by
  match l, h with
  | [a, b, c, d, e, f, g, i], _ => exact ⟨a, b, c, d, e, f, g, i, rfl⟩

theorem str_of_bytes {s : ByteArray} (h : s.size = 8) : strOfNums [bt s 0, bt s 1, bt s 2, bt s 3, bt s 4, bt s 5, bt s 6, bt s 7] = s := by
  obtain ⟨⟨l⟩⟩ := s
  obtain ⟨a, b, c, d, e, f, g, i, rfl⟩ := eight (l := l) h
  have z : (ByteArray.mk ⟨[a, b, c, d, e, f, g, i]⟩).size = 8 := rfl
  have k (x : UInt8) : UInt8.ofNat ((x.toNat : Int)).toNat = x := by simp
  unfold strOfNums bt
  simp only [z, Nat.reduceLT, dif_pos, List.map_cons, List.map_nil]
  refine congrArg ByteArray.mk ?_
  simp only [k]
  rfl

theorem read_back {s : ByteArray} (h : OkT s) : textOf (valTo s 8) = s := by
  obtain ⟨hz, hx, _⟩ := h
  have n : ∀ j : Nat, j < 8 → 0 ≤ dgt (bt s j) := hx
  have m := byt_of_mask (two_digits hx 0 (by omega)) (two_digits hx 2 (by omega)) (two_digits hx 4 (by omega)) (two_digits hx 6 (by omega))
  have e : byt (valTo s 8) 0 = dgt (bt s 0) * 16 + dgt (bt s 1) ∧ byt (valTo s 8) 1 = dgt (bt s 2) * 16 + dgt (bt s 3) ∧ byt (valTo s 8) 2 = dgt (bt s 4) * 16 + dgt (bt s 5) ∧ byt (valTo s 8) 3 = dgt (bt s 6) * 16 + dgt (bt s 7) := by
    rw [val_mask_of]; exact m
  obtain ⟨e0, e1, e2, e3⟩ := e
  have q (j : Nat) (hj : j < 7) : (dgt (bt s j) * 16 + dgt (bt s (j + 1))) / 16 = dgt (bt s j) ∧ (dgt (bt s j) * 16 + dgt (bt s (j + 1))) % 16 = dgt (bt s (j + 1)) := by
    have a := n j (by omega)
    have b := n (j + 1) (by omega)
    have c := dgt_bounds (bt s (j + 1))
    omega
  have f : digs (valTo s 8) 4 = [bt s 0, bt s 1, bt s 2, bt s 3, bt s 4, bt s 5, bt s 6, bt s 7] := by
    show [] ++ [dig (byt (valTo s 8) 0 / 16), dig (byt (valTo s 8) 0 % 16)] ++ [dig (byt (valTo s 8) 1 / 16), dig (byt (valTo s 8) 1 % 16)] ++ [dig (byt (valTo s 8) 2 / 16), dig (byt (valTo s 8) 2 % 16)] ++ [dig (byt (valTo s 8) 3 / 16), dig (byt (valTo s 8) 3 % 16)] = _
    rw [e0, e1, e2, e3, (q 0 (by omega)).1, (q 0 (by omega)).2, (q 2 (by omega)).1, (q 2 (by omega)).2, (q 4 (by omega)).1, (q 4 (by omega)).2, (q 6 (by omega)).1, (q 6 (by omega)).2]
    rw [dig_dgt (n 0 (by omega)), dig_dgt (n (0 + 1) (by omega)), dig_dgt (n 2 (by omega)), dig_dgt (n (2 + 1) (by omega)), dig_dgt (n 4 (by omega)), dig_dgt (n (4 + 1) (by omega)), dig_dgt (n 6 (by omega)), dig_dgt (n (6 + 1) (by omega))]
    rfl
  unfold textOf
  rw [f]
  exact str_of_bytes hz

end Go.Proofs.Ytneiclolkfcboaa
