/-
  The walks of Name, and of the reference's.
-/
import Derived.Test.YtneiclolkfcboaaWalkG
import Derived.Lib.SlBytesConst
namespace Go.Proofs.Ytneiclolkfcboaa
open Go.RowKit

/-- The letters of the rights. -/
def letter : Nat → Int
  | 0 => 118
  | 1 => 114
  | 2 => 119
  | 3 => 115
  | 4 => 108
  | _ => 97
/-- A right's letter, or a dash. -/
def chr (r : Int) (j : Nat) : Int := if hasB r (pw j) = true then letter j else 45
theorem chr_yes {r : Int} {j : Nat} (h : hasB r (pw j) = true) : chr r j = letter j := by unfold chr; rw [if_pos h]
theorem chr_no {r : Int} {j : Nat} (h : hasB r (pw j) = false) : chr r j = 45 := by unfold chr; rw [h]; rfl
def nameTo (r : Int) : Nat → List Int
  | 0 => []
  | k + 1 => nameTo r k ++ [chr r k]
theorem nameTo_len (r : Int) : ∀ k : Nat, (nameTo r k).length = k
  | 0 => rfl
  | k + 1 => by
    show (nameTo r k ++ _).length = _
    rw [List.length_append, nameTo_len r k]; rfl
def nameOf (r : Int) : ByteArray := strOfNums (nameTo r 6)
theorem nameTo_at (r : Int) (j : Nat) (h : j < 6) : (nameTo r 6).getD j 0 = chr r j := by
  match j, h with
  | 0, _ => rfl
  | 1, _ => rfl
  | 2, _ => rfl
  | 3, _ => rfl
  | 4, _ => rfl
  | 5, _ => rfl

theorem hasP_pw {r : Int} (h : 0 ≤ r ∧ r < 256) {j : Nat} (hj : j < 8) : hasP r (pw j) = hasB r (pw j) := by
  obtain ⟨m, rfl⟩ := Int.eq_ofNat_of_zero_le h.1
  have hp : (2 : Nat) ^ j < 256 := by
    have := Nat.pow_lt_pow_right (show 1 < 2 by omega) hj
    simpa using this
  rw [hasB_bit]
  apply Bool.eq_iff_iff.2
  unfold pw
  rw [hasP_iff (by omega) hp]
  constructor
  · intro hs
    exact hs j (by rw [Nat.testBit_two_pow]; simp)
  · intro hb k hk
    rw [Nat.testBit_two_pow] at hk
    have e : j = k := of_decide_eq_true hk
    rw [← e]; exact hb

/-- The six letters as they lie after k rounds. -/
structure NM (w wr : World) (r : Int) (k : Nat) : Prop where
  cell : ∀ j : Nat, j < 6 → wr.cell? ⟨w.heap.size, j, none⟩ = some (.int .u8 (if j < k then chr r j else letter j))
  fz : ∀ j : Nat, j < 6 → wr.frozen? ⟨w.heap.size, j, none⟩ = false
  bel : Below w.heap.size w wr

theorem NM.new (w : World) (r : Int) (t : TypeId) : NM w (w.alloc (.cells #[.int .u8 118, .int .u8 114, .int .u8 119, .int .u8 115, .int .u8 108, .int .u8 97] t (6, 7))) r 0 where
  cell := fun j hj => by
    match j, hj with
    | 0, _ => exact (show _ = some (Value.int .u8 118) from by unfold World.cell?; rw [heap_alloc_new]; rfl)
    | 1, _ => exact (show _ = some (Value.int .u8 114) from by unfold World.cell?; rw [heap_alloc_new]; rfl)
    | 2, _ => exact (show _ = some (Value.int .u8 119) from by unfold World.cell?; rw [heap_alloc_new]; rfl)
    | 3, _ => exact (show _ = some (Value.int .u8 115) from by unfold World.cell?; rw [heap_alloc_new]; rfl)
    | 4, _ => exact (show _ = some (Value.int .u8 108) from by unfold World.cell?; rw [heap_alloc_new]; rfl)
    | 5, _ => exact (show _ = some (Value.int .u8 97) from by unfold World.cell?; rw [heap_alloc_new]; rfl)
  fz := fun j hj => by
    match j, hj with
    | 0, _ => unfold World.frozen?; rw [heap_alloc_new]; rfl
    | 1, _ => unfold World.frozen?; rw [heap_alloc_new]; rfl
    | 2, _ => unfold World.frozen?; rw [heap_alloc_new]; rfl
    | 3, _ => unfold World.frozen?; rw [heap_alloc_new]; rfl
    | 4, _ => unfold World.frozen?; rw [heap_alloc_new]; rfl
    | 5, _ => unfold World.frozen?; rw [heap_alloc_new]; rfl
  bel := (Below.refl w.heap.size w).alloc (Nat.le_refl _) _

theorem NM.yes {w wr : World} {r : Int} {k : Nat} (h : NM w wr r k) (hb : hasB r (pw k) = true) : NM w wr r (k + 1) where
  cell := fun j hj => by
    rw [h.cell j hj]
    by_cases a : j < k
    · rw [if_pos a, if_pos (show j < k + 1 by omega)]
    · rw [if_neg a]
      by_cases b : j = k
      · subst b; rw [if_pos (show j < j + 1 by omega), chr_yes hb]
      · rw [if_neg (show ¬ j < k + 1 by omega)]
  fz := h.fz
  bel := h.bel
theorem NM.no {w wr : World} {r : Int} {k : Nat} (h : NM w wr r k) (hk : k < 6) (hb : hasB r (pw k) = false) : NM w (wr.setCell ⟨w.heap.size, k, none⟩ (.int .u8 45)) r (k + 1) where
  cell := fun j hj => by
    by_cases b : j = k
    · subst b
      rw [World.cell?_setCell_same' _ _ _ (by rw [h.cell j hj]; rfl), if_pos (show j < j + 1 by omega), chr_no hb]
    · rw [World.cell?_setCell_other _ _ _ _ (fun e => b (by injection e with _ e2; exact e2.symm)), h.cell j hj]
      by_cases a : j < k
      · rw [if_pos a, if_pos (show j < k + 1 by omega)]
      · rw [if_neg a, if_neg (show ¬ j < k + 1 by omega)]
  fz := fun j hj => by rw [World.frozen?_setCell]; exact h.fz j hj
  bel := h.bel.setCell (p := ⟨w.heap.size, k, none⟩) (Nat.le_refl _) _

theorem name_conv {w wr : World} {r : Int} (h : NM w wr r 6) (cap : Nat) : (convert 57 9 (.slice (some ⟨w.heap.size, 0, none⟩) 6 cap)).run Try.prog wr = .ok (.string (nameOf r)) wr := by
  refine run_convert_bytes_arg wr 57 5 u57 u5 w.heap.size 0 6 cap (nameTo r 6) (nameTo_len r 6) (fun i hi => ?_) 9 u9
  rw [Nat.zero_add, h.cell i hi, if_pos hi, nameTo_at r i hi]

set_option maxRecDepth 100000 in
set_option maxHeartbeats 4000000 in
theorem name_any (r : Int) (w : World) (h : 0 ≤ r ∧ r < 256) :
    Calls Try.prog 22 #[.int .u8 r] w fun e w' => e = .returned (.string (nameOf r)) ∧ Below w.heap.size w w' := by
  have H := Lib.hid h
  have N0 := Lib.hid (NM.new w r 5)
  have C0 := Lib.run_convert_bytes_const (P := Try.prog) w 57 5 #[.int .u8 118, .int .u8 114, .int .u8 119, .int .u8 115, .int .u8 108, .int .u8 97] 6 6 u57 u5
  clear h
  go_enter Try.func22, Try.ntmps22
  go_wp2
  go_loopw [4, 9] (fun _ c wr => ∃ k : Nat, k ≤ 6 ∧ c = .int .i64 k ∧ NM w wr r k) (fun _ c _ => 6 - (intOf c).toNat)
  case atStart => exact ⟨0, by omega, rfl, N0.out⟩
  case round =>
    obtain ⟨k, hk, rfl, hn⟩ := hrel
    have hc : k = 0 ∨ k = 1 ∨ k = 2 ∨ k = 3 ∨ k = 4 ∨ k = 5 ∨ k = 6 := by omega
    clear hk
    rcases hc with rfl | rfl | rfl | rfl | rfl | rfl | rfl
    · have c := hn.cell 0 (by omega)
      have fz := hn.fz 0 (by omega)
      have P := Lib.hid (show hasP r 1 = hasB r (pw 0) from hasP_pw H.out (j := 0) (by omega))
      have HN := Lib.hid hn
      clear hn
      by_cases hb : hasB r (pw 0) = true
      · have HB := Lib.hid hb
        clear hb
        go_wp2_with fail
        go_at_call 16; refine (hasP_any _ _ _).mono ?_; rintro e w6 ⟨rfl, rfl⟩
        rw [P.out, HB.out]
        go_wp2
        go_roundw
        case rel => exact ⟨1, by omega, by go_num, HN.out.yes HB.out⟩
        case measure => simp [intOf]
      · have hb' : hasB r (pw 0) = false := by simpa using hb
        have HB := Lib.hid hb'
        clear hb hb'
        go_wp2_with fail
        go_at_call 16; refine (hasP_any _ _ _).mono ?_; rintro e w6 ⟨rfl, rfl⟩
        rw [P.out, HB.out]
        go_wp2
        go_roundw
        case rel => exact ⟨1, by omega, by go_num, HN.out.no (by omega) HB.out⟩
        case measure => simp [intOf]
    · have c := hn.cell 1 (by omega)
      have fz := hn.fz 1 (by omega)
      have P := Lib.hid (show hasP r 2 = hasB r (pw 1) from hasP_pw H.out (j := 1) (by omega))
      have HN := Lib.hid hn
      clear hn
      by_cases hb : hasB r (pw 1) = true
      · have HB := Lib.hid hb
        clear hb
        go_wp2_with fail
        go_at_call 16; refine (hasP_any _ _ _).mono ?_; rintro e w6 ⟨rfl, rfl⟩
        rw [P.out, HB.out]
        go_wp2
        go_roundw
        case rel => exact ⟨2, by omega, by go_num, HN.out.yes HB.out⟩
        case measure => simp [intOf]
      · have hb' : hasB r (pw 1) = false := by simpa using hb
        have HB := Lib.hid hb'
        clear hb hb'
        go_wp2_with fail
        go_at_call 16; refine (hasP_any _ _ _).mono ?_; rintro e w6 ⟨rfl, rfl⟩
        rw [P.out, HB.out]
        go_wp2
        go_roundw
        case rel => exact ⟨2, by omega, by go_num, HN.out.no (by omega) HB.out⟩
        case measure => simp [intOf]
    · have c := hn.cell 2 (by omega)
      have fz := hn.fz 2 (by omega)
      have P := Lib.hid (show hasP r 4 = hasB r (pw 2) from hasP_pw H.out (j := 2) (by omega))
      have HN := Lib.hid hn
      clear hn
      by_cases hb : hasB r (pw 2) = true
      · have HB := Lib.hid hb
        clear hb
        go_wp2_with fail
        go_at_call 16; refine (hasP_any _ _ _).mono ?_; rintro e w6 ⟨rfl, rfl⟩
        rw [P.out, HB.out]
        go_wp2
        go_roundw
        case rel => exact ⟨3, by omega, by go_num, HN.out.yes HB.out⟩
        case measure => simp [intOf]
      · have hb' : hasB r (pw 2) = false := by simpa using hb
        have HB := Lib.hid hb'
        clear hb hb'
        go_wp2_with fail
        go_at_call 16; refine (hasP_any _ _ _).mono ?_; rintro e w6 ⟨rfl, rfl⟩
        rw [P.out, HB.out]
        go_wp2
        go_roundw
        case rel => exact ⟨3, by omega, by go_num, HN.out.no (by omega) HB.out⟩
        case measure => simp [intOf]
    · have c := hn.cell 3 (by omega)
      have fz := hn.fz 3 (by omega)
      have P := Lib.hid (show hasP r 8 = hasB r (pw 3) from hasP_pw H.out (j := 3) (by omega))
      have HN := Lib.hid hn
      clear hn
      by_cases hb : hasB r (pw 3) = true
      · have HB := Lib.hid hb
        clear hb
        go_wp2_with fail
        go_at_call 16; refine (hasP_any _ _ _).mono ?_; rintro e w6 ⟨rfl, rfl⟩
        rw [P.out, HB.out]
        go_wp2
        go_roundw
        case rel => exact ⟨4, by omega, by go_num, HN.out.yes HB.out⟩
        case measure => simp [intOf]
      · have hb' : hasB r (pw 3) = false := by simpa using hb
        have HB := Lib.hid hb'
        clear hb hb'
        go_wp2_with fail
        go_at_call 16; refine (hasP_any _ _ _).mono ?_; rintro e w6 ⟨rfl, rfl⟩
        rw [P.out, HB.out]
        go_wp2
        go_roundw
        case rel => exact ⟨4, by omega, by go_num, HN.out.no (by omega) HB.out⟩
        case measure => simp [intOf]
    · have c := hn.cell 4 (by omega)
      have fz := hn.fz 4 (by omega)
      have P := Lib.hid (show hasP r 16 = hasB r (pw 4) from hasP_pw H.out (j := 4) (by omega))
      have HN := Lib.hid hn
      clear hn
      by_cases hb : hasB r (pw 4) = true
      · have HB := Lib.hid hb
        clear hb
        go_wp2_with fail
        go_at_call 16; refine (hasP_any _ _ _).mono ?_; rintro e w6 ⟨rfl, rfl⟩
        rw [P.out, HB.out]
        go_wp2
        go_roundw
        case rel => exact ⟨5, by omega, by go_num, HN.out.yes HB.out⟩
        case measure => simp [intOf]
      · have hb' : hasB r (pw 4) = false := by simpa using hb
        have HB := Lib.hid hb'
        clear hb hb'
        go_wp2_with fail
        go_at_call 16; refine (hasP_any _ _ _).mono ?_; rintro e w6 ⟨rfl, rfl⟩
        rw [P.out, HB.out]
        go_wp2
        go_roundw
        case rel => exact ⟨5, by omega, by go_num, HN.out.no (by omega) HB.out⟩
        case measure => simp [intOf]
    · have c := hn.cell 5 (by omega)
      have fz := hn.fz 5 (by omega)
      have P := Lib.hid (show hasP r 32 = hasB r (pw 5) from hasP_pw H.out (j := 5) (by omega))
      have HN := Lib.hid hn
      clear hn
      by_cases hb : hasB r (pw 5) = true
      · have HB := Lib.hid hb
        clear hb
        go_wp2_with fail
        go_at_call 16; refine (hasP_any _ _ _).mono ?_; rintro e w6 ⟨rfl, rfl⟩
        rw [P.out, HB.out]
        go_wp2
        go_roundw
        case rel => exact ⟨6, by omega, by go_num, HN.out.yes HB.out⟩
        case measure => simp [intOf]
      · have hb' : hasB r (pw 5) = false := by simpa using hb
        have HB := Lib.hid hb'
        clear hb hb'
        go_wp2_with fail
        go_at_call 16; refine (hasP_any _ _ _).mono ?_; rintro e w6 ⟨rfl, rfl⟩
        rw [P.out, HB.out]
        go_wp2
        go_roundw
        case rel => exact ⟨6, by omega, by go_num, HN.out.no (by omega) HB.out⟩
        case measure => simp [intOf]
    · have CV := name_conv hn 6
      have HB := Lib.hid hn.bel
      clear hn
      go_wp2
      go_ret
      exact ⟨rfl, HB.out⟩

theorem letter_str (k : Nat) (h : k < 6) : ByteArray.extract { data := #[118, 114, 119, 115, 108, 97] } k (k + 1) = strOfNums [letter k] := by
  match k, h with
  | 0, _ => rfl
  | 1, _ => rfl
  | 2, _ => rfl
  | 3, _ => rfl
  | 4, _ => rfl
  | 5, _ => rfl

set_option maxRecDepth 100000 in
set_option maxHeartbeats 4000000 in
theorem refName_any (r : Int) (w : World) (h : 0 ≤ r ∧ r < 256) :
    Calls Try.prog 23 #[.int .i64 r] w fun e w' => e = .returned (.string (nameOf r)) ∧ w = w' := by
  have H := Lib.hid h
  clear h
  go_enter Try.func23, Try.ntmps23
  go_wp2
  go_loop [3, 5, 6] (fun s t i => ∃ k : Nat, k ≤ 6 ∧ i = .int .i64 k ∧ t = .int .i64 (pw k) ∧ s = .string (strOfNums (nameTo r k))) (fun _ _ i => 6 - (intOf i).toNat)
  case atStart => exact ⟨0, by omega, rfl, rfl, rfl⟩
  case round =>
    obtain ⟨k, hk, rfl, rfl, rfl⟩ := hrel
    by_cases h6 : k = 6
    · subst h6
      go_wp2
      go_ret
      exact ⟨rfl, rfl⟩
    · have hlt : k < 6 := by omega
      have p1 := pw_pos k
      have p2 : pw k ≤ 32 := pw_le (k := 5) (by omega)
      have p3 : pw k ≤ 128 := by omega
      have ps := Lib.hid (pw_succ k)
      have E1 := letter_str k hlt
      have sz : (strOfNums (nameTo r k)).size ≤ 6 := by rw [strOfNums_size, nameTo_len]; omega
      have s1 : (strOfNums [letter k]).size = 1 := strOfNums_size _
      clear h6
      by_cases hb : hasB r (pw k) = true
      · have ES := Lib.hid (show strOfNums (nameTo r k) ++ strOfNums [letter k] = strOfNums (nameTo r (k + 1)) from by rw [str_app]; show _ = strOfNums (nameTo r k ++ [chr r k]); rw [chr_yes hb])
        have HB := Lib.hid hb
        clear hb
        go_wp2_with fail
        go_at_call 30; refine (has_any _ _ _ H.out.1 H.out.2 p1 p3).mono ?_; rintro e w1 ⟨rfl, rfl⟩
        rw [HB.out]
        go_wp2
        go_round
        case rel => exact ⟨k + 1, by omega, by go_num, by rw [ps.out, Int.mul_comm], val_str ES.out⟩
        case measure => simp [intOf]; omega
      · have hb' : hasB r (pw k) = false := by simpa using hb
        have ES := Lib.hid (show strOfNums (nameTo r k) ++ strOfNums [45] = strOfNums (nameTo r (k + 1)) from by rw [str_app]; show _ = strOfNums (nameTo r k ++ [chr r k]); rw [chr_no hb'])
        have HB := Lib.hid hb'
        clear hb hb'
        go_wp2_with fail
        go_at_call 30; refine (has_any _ _ _ H.out.1 H.out.2 p1 p3).mono ?_; rintro e w1 ⟨rfl, rfl⟩
        rw [HB.out]
        go_wp2
        go_round
        case rel => exact ⟨k + 1, by omega, by go_num, by rw [ps.out, Int.mul_comm], val_str ES.out⟩
        case measure => simp [intOf]; omega

theorem hasP_or {r w : Int} (hr : 0 ≤ r ∧ r < 256) (hw : 0 ≤ w ∧ w < 256) : hasP (bits .or .u8 r w) w = true := by
  obtain ⟨m, rfl⟩ := Int.eq_ofNat_of_zero_le hr.1
  obtain ⟨n, rfl⟩ := Int.eq_ofNat_of_zero_le hw.1
  rw [u8_or_nat m n (by omega) (by omega)]
  refine (hasP_iff (or_lt (by omega) (by omega)) (by omega)).2 fun j hj => ?_
  rw [Nat.testBit_or, hj, Bool.or_true]
theorem hasP_zero {r : Int} (hr : 0 ≤ r ∧ r < 256) : hasP r 0 = true := by
  obtain ⟨m, rfl⟩ := Int.eq_ofNat_of_zero_le hr.1
  exact (hasP_iff (m := m) (n := 0) (by omega) (by omega)).2 fun j hj => by rw [Nat.zero_testBit] at hj; cases hj

end Go.Proofs.Ytneiclolkfcboaa
