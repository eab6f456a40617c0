/-
  Meet, of the program and of the reference (the walks): over a row of numbers x 0 .. x (n - 1).
-/
import Derived.Test.YtkkoepidjgmkbaaPlain
namespace Go.Proofs.Ytkkoepidjgmkbaa
open Go.RowKit Go.Shelf

/-- A slice value that leads to x 0 .. x (n - 1). -/
def Leads (w : World) (a : Option Addr) (n : Nat) (x : Nat → Int) : Prop := n ≤ 9223372036854775807 ∧ (0 < n → ∃ b off, a = some ⟨b, off, none⟩ ∧ ∀ j, j < n → w.cell? ⟨b, off + j, none⟩ = some (.int .i64 (x j)))

theorem ret_two {a b c d : Int} {k l : IntKind} (h1 : a = c) (h2 : b = d) : Ending.returned (.tuple #[.int k a, .int l b]) = .returned (.tuple #[.int k c, .int l d]) := by rw [h1, h2]


set_option maxHeartbeats 400000 in
theorem meet_nil (a : Option Addr) (cap : Nat) (w : World) :
    Calls Try.prog 12 #[.slice a 0 cap] w fun e w' => e = .returned (.tuple #[.int .i64 0, .int .i64 0]) ∧ w = w' := by
  go_enter Try.func12, Try.ntmps12
  go_wp2
  refine wp_loop_rounds 1 ?_
  rw [rounds_succ]
  go_wp2
  refine wp_loop_rounds 1 ?_
  rw [rounds_succ]
  go_wp2
  go_ret2
  exact ⟨rfl, rfl⟩

set_option maxHeartbeats 1000000 in
theorem meet_good (b off n cap : Nat) (x : Nat → Int) (w : World) (hn : n ≤ 9223372036854775807) (hc : ∀ j, j < n → w.cell? ⟨b, off + j, none⟩ = some (.int .i64 (x j))) (hm : ∀ j : Nat, j < n → mayB (x j) = true) :
    Calls Try.prog 12 #[.slice (some ⟨b, off, none⟩) n cap] w fun e w' => e = .returned (.tuple #[.int .i64 (foldTo x n), .int .i64 0]) ∧ w = w' := by
  have HC := Lib.hid hc
  have HM := Lib.hid hm
  clear hc hm
  go_enter Try.func12, Try.ntmps12
  go_wp2
  go_loop [2, 5, 10] (fun o _ i => ∃ k : Nat, k ≤ n ∧ i = .int .i64 k ∧ o = .int .i64 0) (fun _ _ i => n - (intOf i).toNat)
  case atStart => exact ⟨0, by omega, rfl, rfl⟩
  case round =>
    obtain ⟨k, hk, rfl, rfl⟩ := hrel
    by_cases hlt : k < n
    · have c := HC.out k hlt
      have m := HM.out k hlt
      go_wp2_with (go_at_call 14; refine (may_any _ _).mono ?_; rintro e w1 ⟨rfl, rfl⟩)
      go_round
      case rel => exact ⟨k + 1, by omega, by go_num, rfl⟩
      case measure => simp [intOf]; omega
    · have hge : ¬ ((k : Int) < (n : Int)) := by omega
      clear hlt
      go_wp2_with fail
      go_loop [2, 7, 20] (fun o _ i => ∃ k : Nat, k ≤ n ∧ i = .int .i64 k ∧ o = .int .i64 (foldTo x k)) (fun _ _ i => n - (intOf i).toNat)
      case atStart => exact ⟨0, by omega, rfl, rfl⟩
      case round =>
        obtain ⟨q, hq, rfl, rfl⟩ := hrel
        by_cases hlt2 : q < n
        · have c := HC.out q hlt2
          have hs : foldTo x (q + 1) = stepM (foldTo x q) (x q) := rfl
          have HS := Lib.hid hs
          clear hs
          by_cases h0 : foldTo x q = 0
          · have e : stepM (foldTo x q) (x q) = x q := by unfold stepM; rw [if_pos h0]
            have HE := Lib.hid e
            have b0 : (foldTo x q == 0) = true := by simp [h0]
            clear e h0
            go_wp2
            go_round
            case rel => exact ⟨q + 1, by omega, by go_num, by rw [HS.out, HE.out]⟩
            case measure => simp [intOf]; omega
          · have b0 : (foldTo x q == 0) = false := by simp [h0]
            by_cases h1 : x q = 0
            · have e : stepM (foldTo x q) (x q) = foldTo x q := by unfold stepM; rw [if_neg h0, if_pos h1]
              have HE := Lib.hid e
              have b1 : (x q == 0) = true := by simp [h1]
              clear e h0 h1
              go_wp2
              go_round
              case rel => exact ⟨q + 1, by omega, by go_num, by rw [HS.out, HE.out]⟩
              case measure => simp [intOf]; omega
            · have b1 : (x q == 0) = false := by simp [h1]
              by_cases h2 : x q = foldTo x q
              · have e : stepM (foldTo x q) (x q) = foldTo x q := by unfold stepM; rw [if_neg h0, if_neg h1, if_pos h2]
                have HE := Lib.hid e
                have b2 : (x q == foldTo x q) = true := by simp [h2]
                clear e h0 h1 h2
                go_wp2
                go_round
                case rel => exact ⟨q + 1, by omega, by go_num, by rw [HS.out, HE.out]⟩
                case measure => simp [intOf]; omega
              · have e : stepM (foldTo x q) (x q) = 5 := by unfold stepM; rw [if_neg h0, if_neg h1, if_neg h2]
                have HE := Lib.hid e
                have b2 : (x q == foldTo x q) = false := by simp [h2]
                clear e h0 h1 h2
                go_wp2
                go_round
                case rel => exact ⟨q + 1, by omega, by go_num, by rw [HS.out, HE.out]⟩
                case measure => simp [intOf]; omega
        · have hge2 : ¬ ((q : Int) < (n : Int)) := by omega
          have hqn : q = n := by omega
          have HQ := Lib.hid hqn
          clear hlt2 hqn
          go_wp2
          go_ret2
          exact ⟨ret_two (by rw [HQ.out]) rfl, rfl⟩

set_option maxHeartbeats 1000000 in
theorem meet_bad (b off n cap : Nat) (x : Nat → Int) (w : World) (hn : n ≤ 9223372036854775807) (hc : ∀ j, j < n → w.cell? ⟨b, off + j, none⟩ = some (.int .i64 (x j))) (hm : ¬ ∀ j : Nat, j < n → mayB (x j) = true) :
    Calls Try.prog 12 #[.slice (some ⟨b, off, none⟩) n cap] w fun e w' => e = .returned (.tuple #[.int .i64 0, .int .i64 2]) ∧ w = w' := by
  have HC := Lib.hid hc
  have HM := Lib.hid hm
  clear hc hm
  go_enter Try.func12, Try.ntmps12
  go_wp2
  go_loop [5, 10] (fun _ i => ∃ k : Nat, k ≤ n ∧ i = .int .i64 k ∧ ∀ j : Nat, j < k → mayB (x j) = true) (fun _ i => n - (intOf i).toNat)
  case atStart => exact ⟨0, by omega, rfl, fun j hj => by omega⟩
  case round =>
    obtain ⟨k, hk, rfl, hb⟩ := hrel
    have HB := Lib.hid hb
    clear hb
    by_cases hlt : k < n
    · have c := HC.out k hlt
      by_cases m : mayB (x k) = true
      · have M := Lib.hid m
        go_wp2_with (go_at_call 14; refine (may_any _ _).mono ?_; rintro e w1 ⟨rfl, rfl⟩)
        go_round
        case rel => exact ⟨k + 1, by omega, by go_num, fun j hj => (Nat.lt_succ_iff_lt_or_eq.1 hj).elim (HB.out j) (fun e => by rw [e]; exact M.out)⟩
        case measure => simp [intOf]; omega
      · have m' : mayB (x k) = false := by simpa using m
        clear m
        go_wp2_with (go_at_call 14; refine (may_any _ _).mono ?_; rintro e w1 ⟨rfl, rfl⟩)
        go_ret2
        exact ⟨rfl, rfl⟩
    · exact absurd (fun j hj => HB.out j (by omega)) HM.out

end Go.Proofs.Ytkkoepidjgmkbaa
