/-
  The walk of the law PermGrows: it returns true for every two masks, credential, user and group.
-/
import Derived.Test.YtneiclolkfcboaaWalkH
import Derived.Test.YtneiclolkfcboaaL3
import Derived.Test.YtneiclolkfcboaaWalkD
import Derived.Deep.RegionHeld3
namespace Go.Proofs.Ytneiclolkfcboaa
open Go.RowKit


theorem rightsN_sub (a b : Nat) : Sub (rightsN a b false) (rightsN a b true) := by
  intro j hj
  rw [rights_bit] at hj ⊢
  simp only [Bool.false_and, Bool.or_false, Bool.true_and, Bool.and_eq_true, Bool.or_eq_true] at hj ⊢
  exact ⟨.inl hj.1, hj.2⟩
theorem rightsN_mono {a b c d : Nat} (h1 : Sub a c) (h2 : Sub b d) (poss : Bool) : Sub (rightsN a b poss) (rightsN c d poss) := by
  intro j hj
  rw [rights_bit] at hj ⊢
  simp only [Bool.and_eq_true, Bool.or_eq_true] at hj ⊢
  exact ⟨hj.1.elim (fun x => .inl (h1 j x)) (fun x => .inr ⟨x.1, h2 j x.2⟩), hj.2⟩

theorem rights_more {p : Int} (h : IsMask p) (i : Nat) : hasP (rightsOf (byt p i) (byt p 0) true) (rightsOf (byt p i) (byt p 0) false) = true := by
  obtain ⟨m, rfl⟩ := Int.eq_ofNat_of_zero_le h.1
  have hm : m < 4294967296 := by have := h.2; omega
  have l1 := bytN_lt hm i
  have l0 := bytN_lt hm 0
  rw [byt_nat, byt_nat, rights_nat l1 l0, rights_nat l1 l0]
  exact (hasP_iff (Nat.lt_trans (rights_lt _ _ _) (by omega)) (Nat.lt_trans (rights_lt _ _ _) (by omega))).2 (rightsN_sub _ _)

theorem rights_mono {p q : Int} (hp : IsMask p) (hq : IsMask q) (ha : amongB p q = true) {i : Nat} (hi : i ≤ 3) (poss : Bool) : hasP (rightsOf (byt q i) (byt q 0) poss) (rightsOf (byt p i) (byt p 0) poss) = true := by
  obtain ⟨m, rfl⟩ := Int.eq_ofNat_of_zero_le hp.1
  obtain ⟨n, rfl⟩ := Int.eq_ofNat_of_zero_le hq.1
  have hm : m < 4294967296 := by have := hp.2; omega
  have hn : n < 4294967296 := by have := hq.2; omega
  have hs := sub_bytes.1 ((among_sub hm hn).1 ha)
  rw [byt_nat, byt_nat, byt_nat, byt_nat, rights_nat (bytN_lt hn i) (bytN_lt hn 0), rights_nat (bytN_lt hm i) (bytN_lt hm 0)]
  exact (hasP_iff (Nat.lt_trans (rights_lt _ _ _) (by omega)) (Nat.lt_trans (rights_lt _ _ _) (by omega))).2 (rightsN_mono (hs i (by omega)) (hs 0 (by omega)) poss)

theorem mask0 : IsMask 0 := by unfold IsMask; omega

set_option maxRecDepth 100000 in
set_option maxHeartbeats 4000000 in
theorem law4 (p q u g r uid gid : Int) (w : World) (hp : IsMask p) (hq : IsMask q) :
    Calls Try.prog 4 #[.int .u32 p, .int .u32 q, .agg #[.int .i64 u, .int .i64 g, .int .i64 r], .int .i64 uid, .int .i64 gid] w fun e w' => e = .returned (.bool true) ∧ Below w.heap.size w w' := by
  have HP := Lib.hid hp
  have HQ := Lib.hid hq
  have A0 := Lib.hid (among_zero hp)
  have A1 := Lib.hid (among_self hp)
  have R1 := Lib.hid (rights_more hp (atOf u uid g gid))
  have S0 : (fun w' : World => w'.cell? ⟨w.heap.size, 0, none⟩ = some (.int .i64 u) ∧ w'.cell? ⟨w.heap.size, 1, none⟩ = some (.int .i64 g) ∧ w'.cell? ⟨w.heap.size, 2, none⟩ = some (.int .i64 r) ∧ w.heap.size < w'.heap.size ∧ Below w.heap.size w w') (w.alloc (.cells #[.int .i64 u, .int .i64 g, .int .i64 r] 25)).drew :=
    ⟨by go_simp, by go_simp, by go_simp, by simp, ((Below.refl w.heap.size w).alloc (Nat.le_refl _) (.cells #[.int .i64 u, .int .i64 g, .int .i64 r] 25)).drew⟩
  have S1 := Lib.hid S0
  clear S0
  cases ha : amongB p q with
  | false =>
    have HA := Lib.hid ha
    clear ha hp hq
    go_enter Try.func4, Try.ntmps4
    go_wp2_with fail
    go_at_call 14; refine (among_any _ _ _).mono ?_; rintro e w3 ⟨rfl, rfl⟩
    go_wp2_with fail
    go_at_call 15; refine (refAmong_any _ _ _ HP.out HQ.out).mono ?_; rintro e w3 ⟨rfl, rfl⟩
    rw [HA.out]
    go_wp2_with fail
    go_at_call 14; refine (among_any _ _ _).mono ?_; rintro e w3 ⟨rfl, rfl⟩
    rw [A1.out]
    go_wp2_with fail
    go_at_call 14; refine (among_any _ _ _).mono ?_; rintro e w3 ⟨rfl, rfl⟩
    rw [A0.out]
    go_wp2_with fail
    go_region_held3 (fun w' => w'.cell? ⟨w.heap.size, 0, none⟩ = some (.int .i64 u) ∧ w'.cell? ⟨w.heap.size, 1, none⟩ = some (.int .i64 g) ∧ w'.cell? ⟨w.heap.size, 2, none⟩ = some (.int .i64 r) ∧ w.heap.size < w'.heap.size ∧ Below w.heap.size w w') (first | exact S1.out | assumption | exact keepC (by assumption) (by assumption))
      (first
        | (go_at_call 11; refine (rights_any _ _ _ _ _ _ _ _ HP.out).mono ?_; rintro e w3 ⟨rfl, hb3⟩))
    rename_i w4 hS4
    have HB4 := Lib.hid hS4.2.2.2.2
    go_wp2_with fail
    go_at_call 16; refine (hasP_any _ _ _).mono ?_; rintro e w6 ⟨rfl, rfl⟩
    rw [R1.out]
    go_wp2_with fail
    go_at_call 15; refine (refAmong_any _ _ _ HP.out HQ.out).mono ?_; rintro e w7 ⟨rfl, rfl⟩
    rw [HA.out]
    go_wp2_with fail
    go_at_call 13; refine (known_any _).mono ?_; rintro e w9 ⟨rfl, hb9⟩
    go_wp2
    go_ret
    exact ⟨rfl, HB4.out.trans (hb9.mono HB4.out.size)⟩
  | true =>
    have HA := Lib.hid ha
    have R2 := Lib.hid (rights_mono hp hq ha (at_le u uid g gid) false)
    have R3 := Lib.hid (rights_mono hp hq ha (at_le u uid g gid) true)
    clear ha hp hq
    go_enter Try.func4, Try.ntmps4
    go_wp2_with fail
    go_at_call 14; refine (among_any _ _ _).mono ?_; rintro e w3 ⟨rfl, rfl⟩
    go_wp2_with fail
    go_at_call 15; refine (refAmong_any _ _ _ HP.out HQ.out).mono ?_; rintro e w3 ⟨rfl, rfl⟩
    rw [HA.out]
    go_wp2_with fail
    go_at_call 14; refine (among_any _ _ _).mono ?_; rintro e w3 ⟨rfl, rfl⟩
    rw [A1.out]
    go_wp2_with fail
    go_at_call 14; refine (among_any _ _ _).mono ?_; rintro e w3 ⟨rfl, rfl⟩
    rw [A0.out]
    go_wp2_with fail
    go_region_held3 (fun w' => w'.cell? ⟨w.heap.size, 0, none⟩ = some (.int .i64 u) ∧ w'.cell? ⟨w.heap.size, 1, none⟩ = some (.int .i64 g) ∧ w'.cell? ⟨w.heap.size, 2, none⟩ = some (.int .i64 r) ∧ w.heap.size < w'.heap.size ∧ Below w.heap.size w w') (first | exact S1.out | assumption | exact keepC (by assumption) (by assumption))
      (first
        | (go_at_call 11; refine (rights_any _ _ _ _ _ _ _ _ HP.out).mono ?_; rintro e w3 ⟨rfl, hb3⟩))
    rename_i w4 hS4
    have HB4 := Lib.hid hS4.2.2.2.2
    go_wp2_with fail
    go_at_call 16; refine (hasP_any _ _ _).mono ?_; rintro e w6 ⟨rfl, rfl⟩
    rw [R1.out]
    go_wp2_with fail
    go_at_call 15; refine (refAmong_any _ _ _ HP.out HQ.out).mono ?_; rintro e w7 ⟨rfl, rfl⟩
    rw [HA.out]
    have K4 := hS4
    obtain ⟨k0, k1, k2, _, _⟩ := K4
    go_wp2_with fail
    go_at_call 11; refine (rights_any _ _ _ _ _ _ _ _ HQ.out).mono ?_; rintro e w5 ⟨rfl, hb5⟩
    have hS5 := keepC hS4 hb5
    clear hb5 k0 k1 k2
    have K5 := hS5
    obtain ⟨k0, k1, k2, _, _⟩ := K5
    go_wp2_with fail
    go_at_call 16; refine (hasP_any _ _ _).mono ?_; rintro e w6 ⟨rfl, rfl⟩
    rw [R2.out]
    go_wp2_with fail
    go_at_call 11; refine (rights_any _ _ _ _ _ _ _ _ HQ.out).mono ?_; rintro e w7 ⟨rfl, hb7⟩
    have hS7 := keepC hS5 hb7
    have HB7 := Lib.hid hS7.2.2.2.2
    clear hb7 k0 k1 k2 hS5 hS7 hS4 HB4
    go_wp2_with fail
    go_at_call 16; refine (hasP_any _ _ _).mono ?_; rintro e w8 ⟨rfl, rfl⟩
    rw [R3.out]
    go_wp2_with fail
    go_at_call 13; refine (known_any _).mono ?_; rintro e w9 ⟨rfl, hb9⟩
    go_wp2
    go_ret
    exact ⟨rfl, HB7.out.trans (hb9.mono HB7.out.size)⟩

theorem law4w (p : Int) (wp : (Lit.int .u32 p).wf = true) (q : Int) (wq : (Lit.int .u32 q).wf = true) (u g r uid gid : Int) (w : World) :
    Calls Try.prog 4 #[.int .u32 p, .int .u32 q, .agg #[.int .i64 u, .int .i64 g, .int .i64 r], .int .i64 uid, .int .i64 gid] w fun e w' => e = .returned (.bool true) ∧ Below w.heap.size w w' :=
  law4 p q u g r uid gid w (mask_wf wp) (mask_wf wq)

end Go.Proofs.Ytneiclolkfcboaa
