/-
  The walk of the law RestrictAmong: it returns true for every slice of restrictions, restriction and turn.
-/
import Derived.Test.YtkkoepidjgmkbaaWalkL
import Derived.Deep.RegionHeld3
import Derived.Deep.AppendLies
import Derived.Deep.RegionLaw
import Derived.Laws.BitsAllLaws
namespace Go.Proofs.Ytkkoepidjgmkbaa
open Go.RowKit Go.Shelf

/-- Is y among each of the first k? -/
def amAll (x : Nat → Int) (y : Int) : Nat → Bool
  | 0 => true
  | k + 1 => amAll x y k && amongB y (x k)

theorem amAll_iff (x : Nat → Int) (y : Int) : ∀ k : Nat, amAll x y k = true ↔ ∀ j : Nat, j < k → amongB y (x j) = true
  | 0 => ⟨fun _ j hj => by omega, fun _ => rfl⟩
  | k + 1 => by
    show (amAll x y k && amongB y (x k)) = true ↔ _
    rw [Bool.and_eq_true, amAll_iff x y k]
    constructor
    · rintro ⟨h, h2⟩ j hj
      by_cases e : j = k
      · subst e; exact h2
      · exact h j (by omega)
    · intro h
      exact ⟨fun j hj => h j (by omega), h k (by omega)⟩

theorem allTo_iff (x : Nat → Int) (t : Int) : ∀ k : Nat, allTo x t k = true ↔ ∀ j : Nat, j < k → allowB (x j) t = true
  | 0 => ⟨fun _ j hj => by omega, fun _ => rfl⟩
  | k + 1 => by
    show (allTo x t k && allowB (x k) t) = true ↔ _
    rw [Bool.and_eq_true, allTo_iff x t k]
    constructor
    · rintro ⟨h, h2⟩ j hj
      by_cases e : j = k
      · subst e; exact h2
      · exact h j (by omega)
    · intro h
      exact ⟨fun j hj => h j (by omega), h k (by omega)⟩

/-- The folded one lets in just what all of them do. -/
theorem fold_iff (x : Nat → Int) (n : Nat) (h : ∀ j : Nat, j < n → mayB (x j) = true) (t : Int) (ht : 1 ≤ t ∧ t ≤ 4) : allowB (foldTo x n) t = true ↔ ∀ j : Nat, j < n → allowB (x j) t = true := by
  rw [fold_allow x t ht n h, allTo_iff]

theorem fold_among (x : Nat → Int) (n : Nat) (h : ∀ j : Nat, j < n → mayB (x j) = true) {k : Nat} (hk : k < n) : amongB (foldTo x n) (x k) = true :=
  (among_iff _ _).2 fun t ht => (fold_iff x n h t (allow_range ht)).1 ht k hk

theorem all_among (x : Nat → Int) (n : Nat) (h : ∀ j : Nat, j < n → mayB (x j) = true) (y : Int) : amAll x y n = amongB y (foldTo x n) := by
  apply Bool.eq_iff_iff.2
  rw [amAll_iff, among_iff]
  constructor
  · intro k t ht
    exact (fold_iff x n h t (allow_range ht)).2 fun j hj => (among_iff _ _).1 (k j hj) t ht
  · intro k j hj
    exact (among_iff _ _).2 fun t ht => (fold_iff x n h t (allow_range ht)).1 (k t ht) j hj

/-- Two folds over the same numbers, in whichever order, are one. -/
theorem fold_same (x y : Nat → Int) (n m : Nat) (hx : ∀ j : Nat, j < n → mayB (x j) = true) (h1 : ∀ j : Nat, j < n → ∃ i : Nat, i < m ∧ y i = x j) (h2 : ∀ i : Nat, i < m → ∃ j : Nat, j < n ∧ y i = x j) :
    foldTo y m = foldTo x n ∧ ∀ i : Nat, i < m → mayB (y i) = true := by
  have hy : ∀ i : Nat, i < m → mayB (y i) = true := fun i hi => by
    obtain ⟨j, hj, e⟩ := h2 i hi
    rw [e]; exact hx j hj
  refine ⟨?_, hy⟩
  have e := same_fold x n hx (fold_may y m hy)
  have hs : sameTo x n (foldTo y m) 4 = true := by
    refine (same_iff x n _ 4).2 fun j hj => ?_
    apply Bool.eq_iff_iff.2
    rw [fold_iff y m hy _ (by omega), allTo_iff]
    constructor
    · intro h q hq
      obtain ⟨i, hi, e⟩ := h1 q hq
      rw [← e]; exact h i hi
    · intro h i hi
      obtain ⟨q, hq, e⟩ := h2 i hi
      rw [e]; exact h q hq
  rw [hs] at e
  exact of_decide_eq_true e.symm

/-- The list turned by k, twice over. -/
def turned (x : Nat → Int) (n k : Nat) (i : Nat) : Int := if i < n - k then x (k + i) else if i < n - k + n then x (i - (n - k)) else x (i - (n - k) - n)

theorem fold_turned (x : Nat → Int) (n k : Nat) (hk : k < n) (hx : ∀ j : Nat, j < n → mayB (x j) = true) :
    foldTo (turned x n k) (n - k + n + k) = foldTo x n ∧ ∀ i : Nat, i < n - k + n + k → mayB (turned x n k i) = true := by
  refine fold_same x (turned x n k) n (n - k + n + k) hx (fun j hj => ?_) (fun i hi => ?_)
  · refine ⟨n - k + j, by omega, ?_⟩
    unfold turned
    rw [if_neg (by omega), if_pos (by omega)]
    congr 1
    omega
  · unfold turned
    by_cases a : i < n - k
    · rw [if_pos a]; exact ⟨k + i, by omega, rfl⟩
    · rw [if_neg a]
      by_cases b : i < n - k + n
      · rw [if_pos b]; exact ⟨i - (n - k), by omega, rfl⟩
      · rw [if_neg b]; exact ⟨i - (n - k) - n, by omega, rfl⟩

set_option maxHeartbeats 1000000 in
theorem law6_long (a : Option Addr) (len cap : Nat) (y turn : Int) (w : World) (hl : 20 < len) :
    Calls Try.prog 6 #[.slice a len cap, .int .i64 y, .int .i64 turn] w fun e w' => e = .returned (.bool true) ∧ Below w.heap.size w w' := by
  have d : decide (20 < (len : Int)) = true := by simp; omega
  clear hl
  go_enter Try.func6, Try.ntmps6
  go_wp2_with (go_at_call 11; refine (known_any _).mono ?_; rintro e w1 ⟨rfl, hb'⟩)
  go_ret
  exact ⟨rfl, hb'⟩

set_option maxHeartbeats 1000000 in
theorem law6_bad (b off len cap : Nat) (x : Nat → Int) (y turn : Int) (w : World) (hl : len ≤ 20) (hC : Cells w b off len x) (hm : ¬ ∀ j : Nat, j < len → mayB (x j) = true) :
    Calls Try.prog 6 #[.slice (some ⟨b, off, none⟩) len cap, .int .i64 y, .int .i64 turn] w fun e w' => e = .returned (.bool true) ∧ Below w.heap.size w w' := by
  have d : decide (20 < (len : Int)) = false := by simp; omega
  have M1 := Lib.hid (meet_bad b off len cap x w (by omega) hC hm)
  clear hm hC
  go_enter Try.func6, Try.ntmps6
  go_wp2_with (first | (go_at_call 12; refine M1.out.mono ?_; rintro e w2 ⟨rfl, rfl⟩) | (go_at_call 11; refine (known_any _).mono ?_; rintro e w1 ⟨rfl, hb'⟩))
  go_ret
  exact ⟨rfl, hb'⟩

theorem turn_small (turn : Int) (len : Nat) (h : 0 < len) (hl : len ≤ 20) : ∃ q : Nat, q < len ∧ wrap64 ((IntKind.u64.wrap turn).tmod (len : Int)) = (q : Int) := by
  have h0 : 0 ≤ IntKind.u64.wrap turn := by rw [IntKind.wrap_u64]; omega
  generalize IntKind.u64.wrap turn = v at h0
  obtain ⟨n, rfl⟩ := Int.eq_ofNat_of_zero_le h0
  refine ⟨n % len, Nat.mod_lt _ h, ?_⟩
  have e : (n : Int).tmod (len : Int) = ((n % len : Nat) : Int) := by
    rw [Int.tmod_eq_emod_of_nonneg (by omega)]; exact (Int.natCast_emod n len).symm
  rw [e]
  have := Nat.mod_lt n h
  unfold wrap64
  omega

/-- An append onto nil or onto a slice of the call's own, at a step of a region that draws its order: something is there behind it. -/
theorem step_app {P : Program} {ops : Array Oper} {o : Oper} {a : Act} {K : Act → World → Prop} {Q : Exit → Act → World → Prop} {E : Prop} (w : World) (hgd : o.guard = none) (s x : Operand) (t : TypeId)
    (ho : o.op = .call { callee := .builtin .append, args := #[s, x], argTypes := #[t, t] })
    (base : Nat) (e : TypeId) (i : TypeInfo) (z : Value) (size bytes : Nat) (ht : P.underlying t = some (.slice e)) (hi : P.info? e = some i) (hz : i.zero = some z)
    (hsize : i.size = size) (hby : i.bytes = bytes) (hzs : z.cells.size = size) (hsz : 0 < size)
    (v : Value) (n : Nat) (xs : List Value) (hs : a.eval s = v) (hown : w.ownsRow base e size v n xs)
    (ad : Addr) (m c : Nat) (news : List Value) (hx : a.eval x = .slice (some ad) m c) (hl : news.length = m * size) (hnews : ∀ j u, news[j]? = some u → w.cell? (ad.add j) = some u) (h1 : ∀ u ∈ news, u.oneCell' = true)
    (hm : 0 < n + m) (h63 : n + m ≤ maxLen) (hbytes : (n + m) * bytes ≤ 140737488355328) (hbase : base ≤ w.heap.size)
    (h : ∀ g cap w', w'.ownsRow base e size (.slice (some ⟨g, 0, none⟩) (n + m) cap) (n + m) (xs ++ news) → w.grownBy w' v.ownBlock → base ≤ g → K (a.put o.dst (.slice (some ⟨g, 0, none⟩) (n + m) cap)) w') :
    if Region.wanted o (yielded ops a.tmps) = true then Oper.wp P o a w K Q else E := by
  have hw : Region.wanted o (yielded ops a.tmps) = true := by simp [Region.wanted, hgd]
  rw [if_pos hw]
  refine wp_append_own w s x t ho base e i z size bytes ht hi hz hsize hby hzs hsz v n xs hs hown ad m c news hx hl hnews h1 h63 hbytes hbase fun v' w' h2 h3 _ => ?_
  obtain ⟨g, cap, rfl, hg, _⟩ := h2.form hm
  exact h g cap w' h2 h3 hg

theorem vals_turned (x : Nat → Int) (n k : Nat) (hk : k < n) : vals (fun j => x (k + j)) (n - k) ++ vals x n ++ vals x k = vals (turned x n k) (n - k + n + k) := by
  apply List.ext_getElem?
  intro i
  by_cases h1 : i < n - k
  · rw [List.append_assoc, List.getElem?_append_left (by rw [vals_len]; exact h1), vals_at _ _ _ h1, vals_at _ _ _ (by omega)]
    unfold turned
    rw [if_pos h1]
  · by_cases h2 : i < n - k + n
    · rw [List.append_assoc, List.getElem?_append_right (by rw [vals_len]; omega), vals_len, List.getElem?_append_left (by rw [vals_len]; omega), vals_at _ _ _ (by omega), vals_at _ _ _ (by omega)]
      unfold turned
      rw [if_neg h1, if_pos h2]
    · by_cases h3 : i < n - k + n + k
      · rw [List.getElem?_append_right (by rw [List.length_append, vals_len, vals_len]; omega), List.length_append, vals_len, vals_len, vals_at _ _ _ (by omega), vals_at _ _ _ h3]
        unfold turned
        rw [if_neg h1, if_neg h2, Nat.sub_sub]
      · rw [List.getElem?_eq_none (by rw [List.length_append, List.length_append, vals_len, vals_len, vals_len]; omega), List.getElem?_eq_none (by rw [vals_len]; omega)]

theorem shifted {w : World} {b off len q : Nat} {x : Nat → Int} (hq : q < len) (h : Cells w b off len x) : Cells w b (off + q) (len - q) (fun j => x (q + j)) := by
  intro j hj
  have := h (q + j) (by omega)
  rwa [← Nat.add_assoc] at this

theorem fewer {w : World} {b off len q : Nat} {x : Nat → Int} (hq : q ≤ len) (h : Cells w b off len x) : Cells w b off q x := fun j hj => h j (by omega)

theorem meet_turned {n m : Nat} {x y : Nat → Int} {v : Value} {w : World} (h : foldTo y m = foldTo x n ∧ ∀ i : Nat, i < m → mayB (y i) = true)
    (hc : Calls Try.prog 12 #[v] w fun e w' => e = .returned (.tuple #[.int .i64 (foldTo y m), .int .i64 0]) ∧ w = w') : Calls Try.prog 12 #[v] w fun e w' => e = .returned (.tuple #[.int .i64 (foldTo x n), .int .i64 0]) ∧ w = w' := by
  rw [← h.1]; exact hc

theorem keepS {wr w1 w2 : World} {b o : Nat} {v : Value} (hbl : b < wr.heap.size) (h : w1.cell? ⟨b, o, none⟩ = some v ∧ Below wr.heap.size wr w1) (hb : Below w1.heap.size w1 w2) : w2.cell? ⟨b, o, none⟩ = some v ∧ Below wr.heap.size wr w2 :=
  ⟨(hb.cell (p := ⟨b, o, none⟩) (Nat.lt_of_lt_of_le hbl h.2.size)).trans h.1, h.2.trans (hb.mono h.2.size)⟩

set_option maxHeartbeats 4000000 in
theorem law6_good (b off len cap : Nat) (x : Nat → Int) (y turn : Int) (w : World) (h0 : 0 < len) (hl : len ≤ 20) (hcap : len ≤ cap) (hC : Cells w b off len x) (hb : b < w.heap.size) (hm : ∀ j : Nat, j < len → mayB (x j) = true) :
    Calls Try.prog 6 #[.slice (some ⟨b, off, none⟩) len cap, .int .i64 y, .int .i64 turn] w fun e w' => e = .returned (.bool true) ∧ Below w.heap.size w w' := by
  have d : decide (20 < (len : Int)) = false := by simp; omega
  have M1 := Lib.hid (meet_good b off len cap x w (by omega) hC hm)
  have hb0 := hb
  have HM := Lib.hid hm
  have HC := Lib.hid hC
  clear hm hC
  go_enter Try.func6, Try.ntmps6
  go_wp2_with (first | (go_at_call 12; refine M1.out.mono ?_; rintro e w2 ⟨rfl, rfl⟩))
  go_loopw [6, 9, 10] (fun _ al i wr => ∃ k : Nat, k ≤ len ∧ i = .int .i64 k ∧ al = .bool (amAll x y k) ∧ Below w.heap.size w wr) (fun _ _ i _ => len - (intOf i).toNat)
  case atStart => exact ⟨0, by omega, rfl, rfl, Below.refl _ _⟩
  case round =>
    obtain ⟨k, hk, rfl, rfl, hb2⟩ := hrel
    by_cases hlt : k < len
    · have c1 := (HC.out.below hb hb2) k hlt
      have hbl : b < wr.heap.size := Nat.lt_of_lt_of_le hb hb2.size
      have l1 : (0 : Int) ≤ (k : Int) := by omega
      have l2 : (k : Int) < (len : Int) := by omega
      have fa := fold_among x len HM.out hlt
      go_wp2_with fail
      have S0 : wr.drew.cell? ⟨b, off + k, none⟩ = some (.int .i64 (x k)) ∧ Below wr.heap.size wr wr.drew := ⟨c1, (Below.refl _ _).drew⟩
      go_region_held3 (fun w' => w'.cell? ⟨b, off + k, none⟩ = some (.int .i64 (x k)) ∧ Below wr.heap.size wr w') (first | exact S0 | assumption | exact keepS hbl (by assumption) (by assumption))
        (first | (go_at_call 18; refine (among_any _ _ _).mono ?_; rintro e w3 ⟨rfl, hb3⟩) | (go_at_call 19; refine (refAmong_any _ _ _).mono ?_; rintro e w3 ⟨rfl, rfl⟩))
      rename_i w4 hS4
      obtain ⟨_, hb4⟩ := hS4
      have hb5 := hb2.trans (hb4.mono hb2.size)
      have HB5 := Lib.hid hb5
      have c4 := (HC.out.below hb hb5) k hlt
      have hs : amAll x y (k + 1) = (amAll x y k && amongB y (x k)) := rfl
      have HS := Lib.hid hs
      clear hb4 hb5 hs
      by_cases ha : amAll x y k = true
      · have HA := Lib.hid ha
        go_wp2_with (go_at_call 19; refine (refAmong_any _ _ _).mono ?_; rintro e w3 ⟨rfl, rfl⟩)
        go_roundw
        case rel => exact ⟨k + 1, by omega, by go_num, by rw [HS.out, HA.out]; rfl, HB5.out⟩
        case measure => simp [intOf]; omega
      · have ha' : amAll x y k = false := by simpa using ha
        have HA := Lib.hid ha'
        clear ha
        go_wp2_with (go_at_call 19; refine (refAmong_any _ _ _).mono ?_; rintro e w3 ⟨rfl, rfl⟩)
        go_roundw
        case rel => exact ⟨k + 1, by omega, by go_num, by rw [HS.out, HA.out]; rfl, HB5.out⟩
        case measure => simp [intOf]; omega
    · have hkn : k = len := by omega
      have hge : ¬ ((k : Int) < (len : Int)) := by omega
      have hal : amAll x y k = amongB y (foldTo x len) := by rw [hkn]; exact all_among x len HM.out y
      rw [hal]
      have HB2 := Lib.hid hb2
      have hb := hb2
      clear hlt hkn hal hb2
      go_wp2_with (go_at_call 18; refine (among_any _ _ _).mono ?_; rintro e w3 ⟨rfl, hb3⟩)
      obtain ⟨q, hq, hT⟩ := turn_small turn len h0 hl
      rw [hT]
      have HB3 := Lib.hid ((HB2.out.trans (hb3.mono HB2.out.size)).drew)
      clear hT hb3 hb HB2
      have HX := Lib.hid (fun (W : World) (h : Below w.heap.size w W) => HC.out.below hb0 h)
      have HXq := Lib.hid (fun (W : World) (h : Below w.heap.size w W) => shifted (q := q) hq (HC.out.below hb0 h))
      have hqc : q ≤ cap := by omega
      have hql : q ≤ len := by omega
      have hnq : ¬ cap = q := by omega
      obtain ⟨i0, hi, hz0, hz1, hz2⟩ := info_parts info22
      have HI := Lib.hid hi
      have HZ0 := Lib.hid hz0
      have HZ1 := Lib.hid hz1
      have HZ2 := Lib.hid hz2
      have HFT := Lib.hid (fold_turned x len q hq HM.out)
      clear hi hz0 hz1 hz2
      go_wp2_with fail
      go_region_law (first
        | (refine step_app _ rfl (.const (.slice none 0 0)) (.tmp 85) 30 rfl w.heap.size 22 i0 (.int .i64 0) 1 8 Try.underlying30 HI.out HZ0.out HZ1.out HZ2.out rfl (by decide) (.slice none 0 0) 0 [] (by simp [Act.eval]) (World.ownsRow_nil _ _ _ _) ⟨b, off + q, none⟩ (len - q) (cap - q) (vals (fun j => x (q + j)) (len - q)) (by simp [Act.eval, Act.put]) (by rw [vals_len]; omega) (vals_src (HXq.out _ HB3.out)) (vals_one _ _) (by omega) (by unfold maxLen; omega) (by omega) HB3.out.size ?_; intro g1 cp1 w4 hown1 hg1 hgb1; simp only [Nat.zero_add, List.nil_append] at hown1 ⊢; have HB4 := Lib.hid (HB3.out.grown hg1 HB3.out.size (fun k e => by cases e)))
        | (refine step_app _ rfl (.tmp 86) (.tmp 87) 30 rfl w.heap.size 22 i0 (.int .i64 0) 1 8 Try.underlying30 HI.out HZ0.out HZ1.out HZ2.out rfl (by decide) _ (len - q) _ (by simp [Act.eval]) hown1 ⟨b, off, none⟩ len cap (vals x len) (by simp [Act.eval]) (by rw [vals_len]; omega) (vals_src (HX.out _ HB4.out)) (vals_one _ _) (by omega) (by unfold maxLen; omega) (by omega) HB4.out.size ?_; intro g2 cp2 w5 hown2 hg2 hgb2; have HB5 := Lib.hid (HB4.out.grown hg2 HB4.out.size (fun k e => by cases e; exact hgb1)))
        | (refine step_app _ rfl (.tmp 88) (.tmp 91) 30 rfl w.heap.size 22 i0 (.int .i64 0) 1 8 Try.underlying30 HI.out HZ0.out HZ1.out HZ2.out rfl (by decide) _ (len - q + len) _ (by simp [Act.eval]) hown2 ⟨b, off, none⟩ q cap (vals x q) (by simp [Act.eval]) (by rw [vals_len]; omega) (vals_src (fewer hql (HX.out _ HB5.out))) (vals_one _ _) (by omega) (by unfold maxLen; omega) (by omega) HB5.out.size ?_; intro g3 cp3 w6 hown3 hg3 hgb3; have HB6 := Lib.hid (HB5.out.grown hg3 HB5.out.size (fun k e => by cases e; exact hgb2)); rw [vals_turned x len q hq] at hown3; have MT := Lib.hid (meet_turned HFT.out (meet_good g3 0 (len - q + len + q) cp3 (turned x len q) w6 (by omega) (cells_of_own hown3) HFT.out.2)))
        | (go_simp; go_at_call 12; refine MT.out.mono ?_; rintro e w7 ⟨rfl, rfl⟩))
      have hb := HB6.out
      clear hown1 hown2 hown3 hg1 hg2 hg3
      go_wp2_with (go_at_call 11; refine (known_any _).mono ?_; rintro e w7 ⟨rfl, hb'⟩; replace hb := hb.trans (hb'.mono hb.size); clear hb')
      go_ret
      exact ⟨rfl, hb⟩

end Go.Proofs.Ytkkoepidjgmkbaa
