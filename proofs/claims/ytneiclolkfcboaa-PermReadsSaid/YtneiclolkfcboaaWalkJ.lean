/-
  The walks of OfText, and of the reference's.
-/
import Derived.Test.YtneiclolkfcboaaWalkG
import Derived.Laws.RangeAny
namespace Go.Proofs.Ytneiclolkfcboaa
open Go.RowKit

/-- A string's byte. -/
def bt (s : ByteArray) (k : Nat) : Int := if h : k < s.size then ((s[k]'h).toNat : Int) else 0
theorem bt_in (s : ByteArray) (k : Nat) (h : k < s.size) : ((s[k]'h).toNat : Int) = bt s k := by unfold bt; rw [dif_pos h]
theorem bt_bounds (s : ByteArray) (k : Nat) : 0 ≤ bt s k ∧ bt s k < 256 := by
  unfold bt
  split
  · have := (s[k]).toNat_lt
    omega
  · omega
/-- A digit's number, -1: it is none. -/
def dgt (c : Int) : Int := if 48 ≤ c ∧ c ≤ 57 then c - 48 else if 97 ≤ c ∧ c ≤ 102 then c - 87 else -1
theorem dgt_low {c : Int} (h1 : 48 ≤ c) (h2 : c ≤ 57) : dgt c = c - 48 := by unfold dgt; rw [if_pos ⟨h1, h2⟩]
theorem dgt_high {c : Int} (h1 : 97 ≤ c) (h2 : c ≤ 102) : dgt c = c - 87 := by unfold dgt; rw [if_neg (by omega), if_pos ⟨h1, h2⟩]
theorem dgt_none {c : Int} (h1 : c < 48 ∨ 57 < c) (h2 : c < 97 ∨ 102 < c) : dgt c = -1 := by unfold dgt; rw [if_neg (by omega), if_neg (by omega)]
theorem dgt_bounds (c : Int) : -1 ≤ dgt c ∧ dgt c < 16 := by unfold dgt; split; omega; split <;> omega
def valTo (s : ByteArray) : Nat → Int
  | 0 => 0
  | k + 1 => valTo s k * 16 + dgt (bt s k)
def hexTo (s : ByteArray) (k : Nat) : Prop := ∀ j : Nat, j < k → 0 ≤ dgt (bt s j)
theorem hexTo_succ {s : ByteArray} {k : Nat} (h : hexTo s k) (h1 : 0 ≤ dgt (bt s k)) : hexTo s (k + 1) := fun j hj => (Nat.lt_succ_iff_lt_or_eq.1 hj).elim (h j) (fun e => by rw [e]; exact h1)
theorem val_bounds {s : ByteArray} : ∀ {k : Nat}, hexTo s k → 0 ≤ valTo s k ∧ valTo s k < ((16 ^ k : Nat) : Int)
  | 0, _ => by simp [valTo]
  | k + 1, h => by
    have a := val_bounds (k := k) fun j hj => h j (by omega)
    have b := h k (by omega)
    have c := dgt_bounds (bt s k)
    have e : (16 : Nat) ^ (k + 1) = 16 ^ k * 16 := Nat.pow_succ 16 k
    show 0 ≤ valTo s k * 16 + dgt (bt s k) ∧ valTo s k * 16 + dgt (bt s k) < _
    rw [e]
    omega
theorem val_small {s : ByteArray} {k : Nat} (h : hexTo s k) (hk : k ≤ 7) : 0 ≤ valTo s k ∧ valTo s k < 268435456 := by
  have a := val_bounds h
  have b : (16 : Nat) ^ k ≤ 16 ^ 7 := Nat.pow_le_pow_right (by omega) hk
  have c : (16 : Nat) ^ 7 = 268435456 := rfl
  omega
theorem val_mask {s : ByteArray} (h : hexTo s 8) : IsMask (valTo s 8) := by
  have a := val_bounds h
  have c : (16 : Nat) ^ 8 = 4294967296 := rfl
  unfold IsMask
  omega

/-- Is a text a mask's? -/
def OkT (s : ByteArray) : Prop := s.size = 8 ∧ hexTo s 8 ∧ mayB (valTo s 8) = true
open Classical in
noncomputable def ofTextM (s : ByteArray) : Int := if OkT s then valTo s 8 else 0
open Classical in
noncomputable def ofTextE (s : ByteArray) : Int := if OkT s then 0 else 16
theorem ofText_good {s : ByteArray} (h : OkT s) : ofTextM s = valTo s 8 ∧ ofTextE s = 0 := by unfold ofTextM ofTextE; rw [if_pos h, if_pos h]; exact ⟨rfl, rfl⟩
theorem ofText_bad {s : ByteArray} (h : ¬ OkT s) : ofTextM s = 0 ∧ ofTextE s = 16 := by unfold ofTextM ofTextE; rw [if_neg h, if_neg h]; exact ⟨rfl, rfl⟩
theorem ofText_mask (s : ByteArray) : IsMask (ofTextM s) := by
  by_cases h : OkT s
  · rw [(ofText_good h).1]; exact val_mask h.2.1
  · rw [(ofText_bad h).1]; unfold IsMask; omega

theorem or_nib (x d : Int) (hd : 0 ≤ d) (hd' : d < 16) : bits .or .u32 (x * 16 % 4294967296) d = x * 16 % 4294967296 + d := by
  have h0 : 0 ≤ x * 16 % 4294967296 := Int.emod_nonneg _ (by omega)
  have h1 : x * 16 % 4294967296 < 4294967296 := Int.emod_lt_of_pos _ (by omega)
  have h2 : x * 16 % 4294967296 % 16 = 0 := by omega
  generalize x * 16 % 4294967296 = y at h0 h1 h2
  obtain ⟨m, rfl⟩ := Int.eq_ofNat_of_zero_le h0
  obtain ⟨n, rfl⟩ := Int.eq_ofNat_of_zero_le hd
  rw [u32_or_nat m n (by omega) (by omega), nat_join 4 m n (by omega) (by omega)]
  omega

/-- What the next rune tells. -/
theorem next_low (w : World) (s : ByteArray) (k : Nat) (h : k < s.size) (ha : bt s k < 128) (ty : TypeId) :
    (Instr.next (.pointer (some ⟨w.heap.size, 0, none⟩)) true ty).run Try.prog (w.iter s k) = .ok (.tuple #[.bool true, .int .i64 k, .int .i32 (bt s k)]) (w.iter s (k + 1)) := by
  rw [run_next_ascii w s k ty h (by have := bt_in s k h; omega), bt_in s k h]
/-- A byte that is no digit: neither is the rune. -/
theorem next_bad (w : World) (s : ByteArray) (k : Nat) (h : k < s.size) (hn : dgt (bt s k) = -1) :
    ∃ (ρ : Int) (q : Nat), (ρ < 48 ∨ 57 < ρ ∧ ρ < 97 ∨ 102 < ρ) ∧ ∀ ty : TypeId, (Instr.next (.pointer (some ⟨w.heap.size, 0, none⟩)) true ty).run Try.prog (w.iter s k) = .ok (.tuple #[.bool true, .int .i64 k, .int .i32 ρ]) (w.iter s q) := by
  by_cases ha : bt s k < 128
  · refine ⟨bt s k, k + 1, ?_, fun ty => next_low w s k h ha ty⟩
    unfold dgt at hn
    split at hn
    · omega
    · split at hn
      · omega
      · omega
  · refine ⟨(Utf8.decode s k).1, k + (Utf8.decode s k).2, ?_, fun ty => run_next_any w s k ty h⟩
    have := (decode_high s k h (by have := bt_in s k h; omega)).1
    omega

set_option maxRecDepth 100000 in
set_option maxHeartbeats 4000000 in
theorem ofText_any (s : ByteArray) (w : World) (hs : s.size ≤ 1000) :
    Calls Try.prog 25 #[.string s] w fun e w' => e = .returned (.tuple #[.int .u32 (ofTextM s), .int .i64 (ofTextE s)]) ∧ Below w.heap.size w w' := by
  have BI := Lib.hid (fun q => (Below.refl w.heap.size w).alloc (Nat.le_refl _) (.stringIter s q))
  go_enter Try.func25, Try.ntmps25
  go_wp2
  go_loopw [4, 5] (fun n v wr => ∃ (k : Nat) (x : Int), k ≤ s.size ∧ n = .int .i64 k ∧ wr = w.iter s k ∧ hexTo s k ∧ v = .int .u32 x ∧ IsMask x ∧ (k ≤ 8 → x = valTo s k)) (fun n _ _ => s.size - (intOf n).toNat)
  case atStart => exact ⟨0, 0, by omega, rfl, rfl, fun j hj => by omega, rfl, by unfold IsMask; omega, fun _ => rfl⟩
  case round =>
    obtain ⟨k, x, hk, rfl, rfl, hh, rfl, hx, hv⟩ := hrel
    have HH := Lib.hid hh
    have HX := Lib.hid hx
    have HV := Lib.hid hv
    clear hh hx hv
    by_cases hend : k = s.size
    · have NX := fun ty => run_next_end (P := Try.prog) w s k ty (by omega)
      by_cases h8 : k = 8
      · have e := HV.out (by omega)
        subst h8
        have V := Lib.hid e
        clear e
        cases hm : mayB x with
        | true =>
          have G := Lib.hid (ofText_good (s := s) ⟨hend.symm, HH.out, by rw [← V.out]; exact hm⟩)
          have M := Lib.hid hm
          clear hend hm
          go_wp2_with fail
          go_at_call 9; refine (may_any _ _ HX.out).mono ?_; rintro e w3 ⟨rfl, hb3⟩
          rw [M.out]
          have HB3 := Lib.hid ((BI.out 8).trans (hb3.mono (BI.out 8).size))
          clear hb3
          go_wp2
          go_ret2
          exact ⟨ret_two (by rw [G.out.1, V.out]) G.out.2.symm, HB3.out⟩
        | false =>
          have G := Lib.hid (ofText_bad (s := s) (fun h => by rw [V.out] at hm; rw [h.2.2] at hm; cases hm))
          have M := Lib.hid hm
          clear hend hm
          go_wp2_with fail
          go_at_call 9; refine (may_any _ _ HX.out).mono ?_; rintro e w3 ⟨rfl, hb3⟩
          rw [M.out]
          have HB3 := Lib.hid ((BI.out 8).trans (hb3.mono (BI.out 8).size))
          clear hb3
          go_wp2
          go_ret2
          exact ⟨ret_two G.out.1.symm G.out.2.symm, HB3.out⟩
      · have G := Lib.hid (ofText_bad (s := s) (fun h => h8 (hend.trans h.1)))
        have b8 : ((k : Int) == 8) = false := by simp; omega
        have n8 : ¬ (k : Int) = 8 := by omega
        clear hend
        go_wp2
        go_ret2
        exact ⟨ret_two G.out.1.symm G.out.2.symm, BI.out k⟩
    · have hlt : k < s.size := by omega
      have hb := bt_bounds s k
      by_cases hd : 0 ≤ dgt (bt s k)
      · have H1 := Lib.hid (hexTo_succ HH.out hd)
        by_cases hA : 48 ≤ bt s k ∧ bt s k ≤ 57
        · obtain ⟨a1, a2⟩ := hA
          have D := Lib.hid (dgt_low a1 a2)
          have NX := fun ty => next_low w s k hlt (by omega) ty
          have OR := Lib.hid (or_nib x (bt s k - 48) (by omega) (by omega))
          clear hend hd
          go_wp2
          go_roundw
          case rel => exact ⟨k + 1, _, by omega, by go_num, rfl, H1.out, rfl, by rw [OR.out]; have := HX.out; unfold IsMask at *; omega, fun h9 => by rw [OR.out]; have e := HV.out (by omega); have v := val_small HH.out (by omega); rw [e]; show _ = valTo s k * 16 + dgt (bt s k); rw [D.out]; omega⟩
          case measure => simp [intOf]; omega
        · have hB : 97 ≤ bt s k ∧ bt s k ≤ 102 := by
            unfold dgt at hd
            split at hd
            · omega
            · split at hd <;> omega
          clear hA
          obtain ⟨a1, a2⟩ := hB
          have D := Lib.hid (dgt_high a1 a2)
          have NX := fun ty => next_low w s k hlt (by omega) ty
          have OR := Lib.hid (or_nib x (bt s k - 87) (by omega) (by omega))
          clear hend hd
          go_wp2
          go_roundw
          case rel => exact ⟨k + 1, _, by omega, by go_num, rfl, H1.out, rfl, by rw [OR.out]; have := HX.out; unfold IsMask at *; omega, fun h9 => by rw [OR.out]; have e := HV.out (by omega); have v := val_small HH.out (by omega); rw [e]; show _ = valTo s k * 16 + dgt (bt s k); rw [D.out]; omega⟩
          case measure => simp [intOf]; omega
      · have hn : dgt (bt s k) = -1 := by have := dgt_bounds (bt s k); omega
        have G := Lib.hid (ofText_bad (s := s) (fun h => hd (h.2.1 k (by have := h.1; omega))))
        obtain ⟨ρ, q, hρ, NX⟩ := next_bad w s k hlt hn
        clear hend hd hn hb
        rcases hρ with h1 | ⟨h1, h2⟩ | h1
        · go_wp2
          go_ret2
          exact ⟨ret_two G.out.1.symm G.out.2.symm, BI.out q⟩
        · go_wp2
          go_ret2
          exact ⟨ret_two G.out.1.symm G.out.2.symm, BI.out q⟩
        · go_wp2
          go_ret2
          exact ⟨ret_two G.out.1.symm G.out.2.symm, BI.out q⟩

end Go.Proofs.Ytneiclolkfcboaa
