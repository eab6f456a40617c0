/-
  The walk of the law RestrictTypes: it returns true for every two numbers.
-/
import Derived.Test.YtkkoepidjgmkbaaHeld
namespace Go.Proofs.Ytkkoepidjgmkbaa
open Go.RowKit Go.Shelf
attribute [local go_sem] Oper.semAt_some

set_option maxRecDepth 100000 in
set_option maxHeartbeats 8000000 in
theorem law3 (r at_ : Int) (w : World) : Calls Try.prog 3 #[.int .i64 r, .int .i64 at_] w fun e w' => e = .returned (.bool true) ∧ Below w.heap.size w w' := by
  have nf : ∀ (p : Option Addr) (w : World), Sem.run Try.prog (binOp .eql 24 (.func (.func 23) #[] #[.pointer p]) .nilFunc) w = .ok (.bool false) w := fun _ _ => by kernel_rfl
  refine (callsIn_wide (n := 6)).1 ?_
  refine callsIn_of_wp_marks Try.func3 rfl trivial ?_ rfl
  simp only [Try.ntmps3, List.size_toArray, List.length_cons, List.length_nil, Nat.reduceAdd, Nat.reduceSub, Array.replicate_succ, Array.replicate_zero, List.push_toArray, List.append_toArray, List.nil_append, List.cons_append]
  gi_wp2_with (refine ⟨trivial, ?_⟩; gi_at_call 9; refine (types_in Fence.wide _ trivial rfl _ _).mono ?_; rintro e w' ⟨rfl, rfl⟩)
  clear nf
  refine wpIn_loop_rounds 3 ?_
  rw [roundsIn_succ]
  gi_wp2
  have start : Held w.heap.size (w.heap.size + 1 + 1 + 1 + 1) (w.heap.size + 1 + 1 + 1 + 1 + 1) (w.heap.size + 1 + 1 + 1 + 1 + 1 + 1) at_ r 0 0 0 w (((((((w.alloc (.cells #[.int .i64 at_] 3)).alloc (.cells #[.bool false] 4)).alloc (.cells #[.int .i64 r] 22)).alloc (.cells #[.int .i64 r] 22)).alloc (.cells #[.int .i64 0] 3)).alloc (.cells #[.int .i64 0] 3)).alloc (.cells #[.int .i64 0] 26)) := by
    have hB := ((((((((Below.refl w.heap.size w).alloc (Nat.le_refl _) (.cells #[.int .i64 at_] 3)).alloc (by simp) (.cells #[.bool false] 4)).alloc (by simp; omega) (.cells #[.int .i64 r] 22)).alloc (by simp; omega) (.cells #[.int .i64 r] 22)).alloc (by simp; omega) (.cells #[.int .i64 0] 3)).alloc (by simp; omega) (.cells #[.int .i64 0] 3)).alloc (by simp; omega) (.cells #[.int .i64 0] 26))
    exact ⟨hB, Nat.le_refl _, by go_simp, by go_simp, by go_simp, by go_simp, by go_simp, by go_simp, by go_simp, by go_simp, by go_simp, by go_simp, by go_simp⟩
  generalize hW0 : (((((((w.alloc (.cells #[.int .i64 at_] 3)).alloc (.cells #[.bool false] 4)).alloc (.cells #[.int .i64 r] 22)).alloc (.cells #[.int .i64 r] 22)).alloc (.cells #[.int .i64 0] 3)).alloc (.cells #[.int .i64 0] 3)).alloc (.cells #[.int .i64 0] 26)) = W0 at start ⊢
  clear hW0
  have hsz := lt_cell start.cl
  refine wpIn_rangeFunc_ownF rfl (by omega) (gf := 23) (lb := #[.pointer (some ⟨w.heap.size + 1 + 1 + 1, 0, none⟩)]) rfl trivial (enters_of Try.func23 (by kernel_rfl) rfl)
    (iter_stops Fence.wide _ trivial rfl (by omega) (w.heap.size + 1 + 1 + 1) (w.heap.size + 4) r W0 (by omega) (by omega) start.cb) belowK_t (belowK_b (by omega)) (Below.refl _ _) (fun _ => rfl)
    (fun pre W => okL r pre ∧ Held w.heap.size (w.heap.size + 1 + 1 + 1 + 1) (w.heap.size + 1 + 1 + 1 + 1 + 1) (w.heap.size + 1 + 1 + 1 + 1 + 1 + 1) at_ r 0 pre.length (lastOf pre) w W)
    (fun c pre W => (c = .ret ∧ ¬ okL r pre) ∨ (c = .exit 2 ∧ ∃ n l, Held w.heap.size (w.heap.size + 1 + 1 + 1 + 1) (w.heap.size + 1 + 1 + 1 + 1 + 1) (w.heap.size + 1 + 1 + 1 + 1 + 1 + 1) at_ r 0 n l w W))
    (fun pre A B row hs hg hr => ⟨hs.1, hs.2.own hg (fun k e => ⟨by have := (hr k e).1; omega, (hr k e).2⟩)⟩)
    (fun c pre A B row hs hg hr => hs.elim .inl (fun ⟨e1, n, l, h⟩ => .inr ⟨e1, n, l, h.own hg (fun k e => ⟨by have := (hr k e).1; omega, (hr k e).2⟩)⟩))
    ⟨⟨by simp, by simp⟩, start⟩
    (fun x => { tmps := #[.int .i64 r, .int .i64 at_, undef, .pointer (some ⟨w.heap.size, 0, none⟩), .pointer (some ⟨w.heap.size + 1, 0, none⟩), .pointer (some ⟨w.heap.size + 1 + 1, 0, none⟩), .func (.func 23) #[] #[.pointer (some ⟨w.heap.size + 1 + 1 + 1, 0, none⟩)], .pointer (some ⟨w.heap.size + 1 + 1 + 1 + 1, 0, none⟩), .pointer (some ⟨w.heap.size + 1 + 1 + 1 + 1 + 1, 0, none⟩), .pointer (some ⟨w.heap.size + 1 + 1 + 1 + 1 + 1 + 1, 0, none⟩), .int .i64 x, undef, undef, .int .i64 r, .int .i64 r, .func (.func 23) #[] #[.pointer (some ⟨w.heap.size + 1 + 1 + 1, 0, none⟩)], .func (.func 23) #[] #[.pointer (some ⟨w.heap.size + 1 + 1 + 1, 0, none⟩)], .bool false, .int .i64 0, .bool true, undef, undef, .func (.func 23) #[] #[.pointer (some ⟨w.heap.size + 1 + 1 + 1, 0, none⟩)], .int .i64 x, undef, undef, undef, undef, undef, undef, undef, undef, undef, undef, undef, undef, undef, undef, undef, undef, undef, undef, undef, undef, undef, undef, undef, undef, undef, undef, undef, undef, undef, undef, undef, undef, undef, undef, undef, undef, undef], defers := [] }) ?assign ?body ?done ?stop
  case assign =>
    intro l x W K hK
    gi_wp2
    exact hK
  case body =>
    rintro l pre x W ⟨hok, hH⟩ hlen
    have HOK := Lib.hid hok
    have HH := Lib.hid hH
    have cl := hH.cl
    have fl := hH.fl
    have ca := hH.ca
    have cres := hH.cres
    have fres := hH.fres
    have cn := hH.cn
    have fn := hH.fn
    have cr := hH.cr
    have cq := hH.cq
    clear hok hH
    by_cases h1 : x ≤ lastOf pre
    · have d1 : decide (x ≤ lastOf pre) = true := by simpa using h1
      have BAD := Lib.hid (okL_bad1 (r := r) h1)
      clear h1
      gi_wp2_with (first | (refine ⟨(trivial : Fence.wide.fn 10), ?_⟩; gi_at_call 10; refine (CallsIn.inRound l (callsIn_wide.2 (refAllows_any _ _ _))).mono ?_; rintro e w' ⟨rfl, rfl⟩) | (refine ⟨(trivial : Fence.wide.fn 10), ?_⟩))
      exact ⟨KeepsOthers.setCell _ _ _, .inl ⟨rfl, BAD.out⟩⟩
    · have d1 : decide (x ≤ lastOf pre) = false := by simpa using h1
      by_cases h2 : allowB r x = true
      · have OK := Lib.hid (okL_snoc HOK.out (by omega) h2)
        have HEND := Lib.hid ((HH.out.last (by omega) (by omega) (by omega) x).many (by omega) (by omega) (by omega) ((pre.length : Int) + 1))
        by_cases h3 : at_ < (pre.length : Int) + 1
        · have d3 : decide (at_ < (pre.length : Int) + 1) = true := by simpa using h3
          clear h1
          gi_wp2_with (first | (refine ⟨(trivial : Fence.wide.fn 10), ?_⟩; gi_at_call 10; refine (CallsIn.inRound l (callsIn_wide.2 (refAllows_any _ _ _))).mono ?_; rintro e w' ⟨rfl, rfl⟩) | (refine ⟨(trivial : Fence.wide.fn 10), ?_⟩))
          exact ⟨(KeepsOthers.setCell _ _ _).trans (KeepsOthers.setCell _ _ _), .inr ⟨rfl, _, _, HEND.out⟩⟩
        · have d3 : decide (at_ < (pre.length : Int) + 1) = false := by simpa using h3
          clear h1
          gi_wp2_with (first | (refine ⟨(trivial : Fence.wide.fn 10), ?_⟩; gi_at_call 10; refine (CallsIn.inRound l (callsIn_wide.2 (refAllows_any _ _ _))).mono ?_; rintro e w' ⟨rfl, rfl⟩) | (refine ⟨(trivial : Fence.wide.fn 10), ?_⟩))
          exact ⟨(KeepsOthers.setCell _ _ _).trans (KeepsOthers.setCell _ _ _), ((Below.refl _ W).setCell (p := ⟨w.heap.size + 1 + 1 + 1 + 1 + 1 + 1, 0, none⟩) (by show w.heap.size + 4 ≤ w.heap.size + 1 + 1 + 1 + 1 + 1 + 1; omega) _).setCell (p := ⟨w.heap.size + 1 + 1 + 1 + 1 + 1, 0, none⟩) (by show w.heap.size + 4 ≤ w.heap.size + 1 + 1 + 1 + 1 + 1; omega) _, OK.out, by rw [lastOf_snoc, List.length_append, List.length_singleton, Int.natCast_add]; exact HEND.out⟩
      · have h2' : allowB r x = false := by simpa using h2
        have BAD := Lib.hid (okL_bad2 (l := pre) h2')
        clear h1 h2
        gi_wp2_with (first | (refine ⟨(trivial : Fence.wide.fn 10), ?_⟩; gi_at_call 10; refine (CallsIn.inRound l (callsIn_wide.2 (refAllows_any _ _ _))).mono ?_; rintro e w' ⟨rfl, rfl⟩) | (refine ⟨(trivial : Fence.wide.fn 10), ?_⟩))
        exact ⟨KeepsOthers.setCell _ _ _, .inl ⟨rfl, BAD.out⟩⟩
  case done =>
    rintro D xs W hD rfl ⟨_, hH⟩ hK
    have HH := Lib.hid hH
    have HK := Lib.hid hK
    have ca := hH.ca
    have cr := hH.cr
    have cn := hH.cn
    have wsz := lt_cell hH.cl
    clear hH hK start
    gi_wp2
    gi_loop [11, 12] (fun m t => ∃ k : Nat, 1 ≤ k ∧ k ≤ 5 ∧ t = .int .i64 k ∧ m = .int .i64 (letsTo r k).length) (fun _ t => 5 - (intOf t).toNat)
    case atStart => exact ⟨1, by omega, by omega, rfl, rfl⟩
    case round =>
      obtain ⟨k, hk1, hk5, rfl, rfl⟩ := hrel
      have hlen := lets_len r k
      by_cases h4 : k ≤ 4
      · by_cases ha : allowB r k = true
        · have HA := Lib.hid (many_yes hk1 h4 ha)
          gi_wp2_with (refine ⟨trivial, ?_⟩; gi_at_call 10; refine (callsIn_wide.2 (refAllows_any _ _ _)).mono ?_; rintro e w' ⟨rfl, rfl⟩)
          go_round
          case rel => exact ⟨k + 1, by omega, by omega, by go_num, by rw [HA.out]⟩
          case measure => simp [intOf]; omega
        · have ha' : allowB r k = false := by simpa using ha
          have HA := Lib.hid (many_no hk1 h4 ha')
          clear ha
          gi_wp2_with (refine ⟨trivial, ?_⟩; gi_at_call 10; refine (callsIn_wide.2 (refAllows_any _ _ _)).mono ?_; rintro e w' ⟨rfl, rfl⟩)
          go_round
          case rel => exact ⟨k + 1, by omega, by omega, by go_num, by rw [HA.out]⟩
          case measure => simp [intOf]; omega
      · have hge : ¬ ((k : Int) ≤ 4) := by omega
        have hk : k = 5 := by omega
        have HKE := Lib.hid hk
        clear h4 hlen hk
        gi_wp2
        rw [roundsIn_succ]
        gi_wp2
        have hN := HH.out.next
        have hD1 := mark_alloc (mark_alloc (mark_alloc HK.out (.cells #[.int .i64 1] 3)) (.cells #[.int .i64 0] 3)) (.cells #[.int .i64 0] 26)
        have hDW := mark_lt HK.out
        have hsN := lt_cell hN.cl
        generalize hW1 : (((W.alloc (.cells #[.int .i64 1] 3)).alloc (.cells #[.int .i64 0] 3)).alloc (.cells #[.int .i64 0] 26)) = W1 at hN hD1 hsN ⊢
        clear hW1 ca cr cn
        refine wpIn_rangeFunc_ownF rfl (by omega) (gf := 23) (lb := #[.pointer (some ⟨w.heap.size + 1 + 1 + 1, 0, none⟩)]) rfl trivial (enters_of Try.func23 (by kernel_rfl) rfl)
          (iter_stops Fence.wide _ trivial rfl (by omega) (w.heap.size + 1 + 1 + 1) (w.heap.size + 4) r W1 (by omega) (by omega) hN.cb) belowK_t (belowK_b (by omega)) (Below.refl _ _) (fun _ => rfl)
          (fun pre V => (okL r pre ∧ Held w.heap.size (W.heap.size) (W.heap.size + 1) (W.heap.size + 1 + 1) at_ r 1 pre.length (lastOf pre) w V) ∧ V.heap[D]? = some (.deferred (some [])))
          (fun c pre V => c = .ret ∧ ¬ okL r pre)
          (fun pre A B row hs hg hr => ⟨⟨hs.1.1, hs.1.2.own hg (fun k e => ⟨by have := (hr k e).1; omega, (hr k e).2⟩)⟩, mark_kept hs.2 hg (fun k e => (hr k e).1) (by omega)⟩)
          (fun c pre A B row hs hg hr => hs)
          ⟨⟨⟨by simp, by simp⟩, hN⟩, hD1⟩
          (fun x => { tmps := #[.int .i64 r, .int .i64 at_, undef, .pointer (some ⟨w.heap.size, 0, none⟩), .pointer (some ⟨w.heap.size + 1, 0, none⟩), .pointer (some ⟨w.heap.size + 1 + 1, 0, none⟩), .func (.func 23) #[] #[.pointer (some ⟨w.heap.size + 1 + 1 + 1, 0, none⟩)], .pointer (some ⟨W.heap.size, 0, none⟩), .pointer (some ⟨W.heap.size + 1, 0, none⟩), .pointer (some ⟨W.heap.size + 1 + 1, 0, none⟩), .int .i64 x, .int .i64 (letsTo r k).length, .int .i64 k, .int .i64 r, .int .i64 r, .func (.func 23) #[] #[.pointer (some ⟨w.heap.size + 1 + 1 + 1, 0, none⟩)], .func (.func 23) #[] #[.pointer (some ⟨w.heap.size + 1 + 1 + 1, 0, none⟩)], .bool false, .int .i64 1, .bool true, .int .i64 0, .int .i64 1, .func (.func 23) #[] #[.pointer (some ⟨w.heap.size + 1 + 1 + 1, 0, none⟩)], .int .i64 x, undef, undef, undef, undef, undef, undef, undef, undef, undef, undef, undef, undef, undef, undef, undef, undef, undef, undef, undef, .int .i64 k, .bool false, u45, u46, u47, u48, u49, u50, u51, .int .i64 0, .bool false, .bool false, undef, undef, undef, .bool false, .int .i64 0, undef], defers := [] }) ?assign2 ?body2 ?done2 ?stop2
        case assign2 =>
          intro l x V K hK2
          gi_wp2
          exact hK2
        case body2 =>
          rintro l pre x V ⟨⟨hok, hH⟩, hmk⟩ hlen
          have HOK := Lib.hid hok
          have HH2 := Lib.hid hH
          have HMK := Lib.hid hmk
          have cl := hH.cl
          have fl := hH.fl
          have ca := hH.ca
          have cres := hH.cres
          have fres := hH.fres
          have cn := hH.cn
          have fn := hH.fn
          have cr := hH.cr
          clear hok hH hmk hN hD1 HK HH
          by_cases h1 : x ≤ lastOf pre
          · have d1 : decide (x ≤ lastOf pre) = true := by simpa using h1
            have BAD := Lib.hid (okL_bad1 (r := r) h1)
            clear h1
            gi_wp2_with (first | (refine ⟨(trivial : Fence.wide.fn 10), ?_⟩; gi_at_call 10; refine (CallsIn.inRound l (callsIn_wide.2 (refAllows_any _ _ _))).mono ?_; rintro e w' ⟨rfl, rfl⟩) | (refine ⟨(trivial : Fence.wide.fn 10), ?_⟩))
            exact ⟨KeepsOthers.setCell _ _ _, rfl, BAD.out⟩
          · have d1 : decide (x ≤ lastOf pre) = false := by simpa using h1
            by_cases h2 : allowB r x = true
            · have OK := Lib.hid (okL_snoc HOK.out (by omega) h2)
              have HEND := Lib.hid ((HH2.out.last (by omega) (by omega) (by omega) x).many (by omega) (by omega) (by omega) ((pre.length : Int) + 1))
              have q1 : ¬ W.heap.size + 1 + 1 = W.heap.size + 1 := by omega
              clear h1
              gi_wp2_with (first | (refine ⟨(trivial : Fence.wide.fn 10), ?_⟩; gi_at_call 10; refine (CallsIn.inRound l (callsIn_wide.2 (refAllows_any _ _ _))).mono ?_; rintro e w' ⟨rfl, rfl⟩) | (refine ⟨(trivial : Fence.wide.fn 10), ?_⟩))
              exact ⟨(KeepsOthers.setCell _ _ _).trans (KeepsOthers.setCell _ _ _), ((Below.refl _ V).setCell (p := ⟨W.heap.size + 1 + 1, 0, none⟩) (by show w.heap.size + 4 ≤ W.heap.size + 1 + 1; omega) _).setCell (p := ⟨W.heap.size + 1, 0, none⟩) (by show w.heap.size + 4 ≤ W.heap.size + 1; omega) _, ⟨OK.out, by rw [lastOf_snoc, List.length_append, List.length_singleton, Int.natCast_add]; exact HEND.out⟩, (KeepsOthers.setCell _ _ _).same D _ ((KeepsOthers.setCell _ _ _).same D _ HMK.out rfl) rfl⟩
            · have h2' : allowB r x = false := by simpa using h2
              have BAD := Lib.hid (okL_bad2 (l := pre) h2')
              clear h1 h2
              gi_wp2_with (first | (refine ⟨(trivial : Fence.wide.fn 10), ?_⟩; gi_at_call 10; refine (CallsIn.inRound l (callsIn_wide.2 (refAllows_any _ _ _))).mono ?_; rintro e w' ⟨rfl, rfl⟩) | (refine ⟨(trivial : Fence.wide.fn 10), ?_⟩))
              exact ⟨KeepsOthers.setCell _ _ _, rfl, BAD.out⟩
        case done2 =>
          rintro D2 ys V hD2 rfl ⟨⟨_, hH⟩, hmk⟩ hK2
          have HH2 := Lib.hid hH
          have HM := Lib.hid hmk
          have HK2 := Lib.hid hK2
          have ca := hH.ca
          have cr := hH.cr
          have cn := hH.cn
          have vsz := lt_cell hH.cl
          clear hN hD1 HK HH hH hmk hK2
          gi_wp2
          gi_loop [11, 12] (fun m t => ∃ k : Nat, 1 ≤ k ∧ k ≤ 5 ∧ t = .int .i64 k ∧ m = .int .i64 (letsTo r k).length) (fun _ t => 5 - (intOf t).toNat)
          case atStart => exact ⟨1, by omega, by omega, rfl, rfl⟩
          case round =>
            obtain ⟨k2, hk1', hk5', rfl, rfl⟩ := hrel
            have hlen := lets_len r k2
            by_cases h4 : k2 ≤ 4
            · by_cases ha : allowB r k2 = true
              · have HA := Lib.hid (many_yes hk1' h4 ha)
                gi_wp2_with (refine ⟨trivial, ?_⟩; gi_at_call 10; refine (callsIn_wide.2 (refAllows_any _ _ _)).mono ?_; rintro e w' ⟨rfl, rfl⟩)
                go_round
                case rel => exact ⟨k2 + 1, by omega, by omega, by go_num, by rw [HA.out]⟩
                case measure => simp [intOf]; omega
              · have ha' : allowB r k2 = false := by simpa using ha
                have HA := Lib.hid (many_no hk1' h4 ha')
                clear ha
                gi_wp2_with (refine ⟨trivial, ?_⟩; gi_at_call 10; refine (callsIn_wide.2 (refAllows_any _ _ _)).mono ?_; rintro e w' ⟨rfl, rfl⟩)
                go_round
                case rel => exact ⟨k2 + 1, by omega, by omega, by go_num, by rw [HA.out]⟩
                case measure => simp [intOf]; omega
            · have hge : ¬ ((k2 : Int) ≤ 4) := by omega
              have hk2 : k2 = 5 := by omega
              have hsame : (letsTo r k2).length = (lets r).length := by rw [hk2]; rfl
              rw [hsame]
              have wsv : w.heap.size + 4 ≤ V.heap.size := by omega
              have cres2 : ∀ V2, Below V.heap.size V V2 → V2.cell? ⟨w.heap.size + 1, 0, none⟩ = some (.bool false) := fun V2 hb => (hb.cell (p := ⟨w.heap.size + 1, 0, none⟩) (by show w.heap.size + 1 < V.heap.size; omega)).trans HH2.out.cres
              have fres2 : ∀ V2, Below V.heap.size V V2 → V2.frozen? ⟨w.heap.size + 1, 0, none⟩ = false := fun V2 hb => (hb.frozen (p := ⟨w.heap.size + 1, 0, none⟩) (by show w.heap.size + 1 < V.heap.size; omega)).trans HH2.out.fres
              have CR := Lib.hid cres2
              have FR := Lib.hid fres2
              clear h4 hlen hk2 hsame cres2 fres2
              gi_wp2
              rw [roundsIn_succ]
              gi_wp2_with (refine ⟨trivial, ?_⟩; gi_at_call 11; refine (callsIn_wide.2 (known_any _)).mono ?_; rintro e V3 ⟨rfl, hb3⟩; have hb4 := ((Below.refl V.heap.size V).alloc (Nat.le_refl _) (.cells #[.int .i64 2] 3)).trans (hb3.mono (by simp)); have c3 := CR.out V3 hb4; have f3 := FR.out V3 hb4)
              have m1 := (KeepsOthers.setCell V3 ⟨w.heap.size + 1, 0, none⟩ (.bool true)).same D _ (mark_below HM.out hb4) rfl
              have m2 := (KeepsOthers.setCell V3 ⟨w.heap.size + 1, 0, none⟩ (.bool true)).same D2 _ (mark_below HK2.out hb4) rfl
              have hne : D ≠ D2 := by omega
              have m3 := (World.putObj_heap_other (w := V3.setCell ⟨w.heap.size + 1, 0, none⟩ (.bool true)) (o := .deferred none) hne).trans m1
              refine ⟨by simp, .inl ⟨_, _, rfl, run_takeDeferred m2, ⟨by simp, .inl ⟨_, _, rfl, run_takeDeferred m3, ?_⟩⟩⟩⟩
              have d5 := World.cell?_setCell_same' V3 ⟨w.heap.size + 1, 0, none⟩ (.bool true) (by rw [CR.out V3 hb4]; rfl)
              have d6 := cell_kept d5 (grownBy_putObj' _ D2 (.deferred none)) (fun r e => by cases e; exact ⟨_, m2, rfl⟩)
              have d7 := cell_kept d6 (grownBy_putObj' _ D (.deferred none)) (fun r e => by cases e; exact ⟨_, m3, rfl⟩)
              have hB := (HH2.out.b.trans (hb4.mono (by omega))).setCell (p := ⟨w.heap.size + 1, 0, none⟩) (by show w.heap.size ≤ w.heap.size + 1; omega) (.bool true)
              refine ⟨.bool true, ?_, rfl, (hB.trans (belowK_b (w := w) (Nat.le_refl _) _ D2 _ _ (by omega) m2 rfl rfl)).trans (belowK_b (w := w) (Nat.le_refl _) _ D _ _ (by omega) m3 rfl rfl)⟩
              simp [results, Try.f3, go_sem, d7]
        case stop2 =>
          rintro D2 c pre V _ hpre ⟨_, hbad⟩ _
          exact absurd (okL_prefix hpre (okL_lets r)) hbad
  case stop =>
    rintro D c pre W hD hpre (⟨rfl, hbad⟩ | ⟨rfl, n, l, hH⟩) hK
    · exact absurd (okL_prefix hpre (okL_lets r)) hbad
    have HH := Lib.hid hH
    have HK := Lib.hid hK
    have ca := hH.ca
    have cr := hH.cr
    have cn := hH.cn
    have wsz := lt_cell hH.cl
    clear hH hK start
    gi_wp2
    gi_loop [11, 12] (fun m t => ∃ k : Nat, 1 ≤ k ∧ k ≤ 5 ∧ t = .int .i64 k ∧ m = .int .i64 (letsTo r k).length) (fun _ t => 5 - (intOf t).toNat)
    case atStart => exact ⟨1, by omega, by omega, rfl, rfl⟩
    case round =>
      obtain ⟨k, hk1, hk5, rfl, rfl⟩ := hrel
      have hlen := lets_len r k
      by_cases h4 : k ≤ 4
      · by_cases ha : allowB r k = true
        · have HA := Lib.hid (many_yes hk1 h4 ha)
          gi_wp2_with (refine ⟨trivial, ?_⟩; gi_at_call 10; refine (callsIn_wide.2 (refAllows_any _ _ _)).mono ?_; rintro e w' ⟨rfl, rfl⟩)
          go_round
          case rel => exact ⟨k + 1, by omega, by omega, by go_num, by rw [HA.out]⟩
          case measure => simp [intOf]; omega
        · have ha' : allowB r k = false := by simpa using ha
          have HA := Lib.hid (many_no hk1 h4 ha')
          clear ha
          gi_wp2_with (refine ⟨trivial, ?_⟩; gi_at_call 10; refine (callsIn_wide.2 (refAllows_any _ _ _)).mono ?_; rintro e w' ⟨rfl, rfl⟩)
          go_round
          case rel => exact ⟨k + 1, by omega, by omega, by go_num, by rw [HA.out]⟩
          case measure => simp [intOf]; omega
      · have hge : ¬ ((k : Int) ≤ 4) := by omega
        have hk : k = 5 := by omega
        have HKE := Lib.hid hk
        clear h4 hlen hk
        gi_wp2
        rw [roundsIn_succ]
        gi_wp2
        have hN := HH.out.next
        have hD1 := mark_alloc (mark_alloc (mark_alloc HK.out (.cells #[.int .i64 1] 3)) (.cells #[.int .i64 0] 3)) (.cells #[.int .i64 0] 26)
        have hDW := mark_lt HK.out
        have hsN := lt_cell hN.cl
        generalize hW1 : (((W.alloc (.cells #[.int .i64 1] 3)).alloc (.cells #[.int .i64 0] 3)).alloc (.cells #[.int .i64 0] 26)) = W1 at hN hD1 hsN ⊢
        clear hW1 ca cr cn
        refine wpIn_rangeFunc_ownF rfl (by omega) (gf := 23) (lb := #[.pointer (some ⟨w.heap.size + 1 + 1 + 1, 0, none⟩)]) rfl trivial (enters_of Try.func23 (by kernel_rfl) rfl)
          (iter_stops Fence.wide _ trivial rfl (by omega) (w.heap.size + 1 + 1 + 1) (w.heap.size + 4) r W1 (by omega) (by omega) hN.cb) belowK_t (belowK_b (by omega)) (Below.refl _ _) (fun _ => rfl)
          (fun pre V => (okL r pre ∧ Held w.heap.size (W.heap.size) (W.heap.size + 1) (W.heap.size + 1 + 1) at_ r 1 pre.length (lastOf pre) w V) ∧ V.heap[D]? = some (.deferred (some [])))
          (fun c pre V => c = .ret ∧ ¬ okL r pre)
          (fun pre A B row hs hg hr => ⟨⟨hs.1.1, hs.1.2.own hg (fun k e => ⟨by have := (hr k e).1; omega, (hr k e).2⟩)⟩, mark_kept hs.2 hg (fun k e => (hr k e).1) (by omega)⟩)
          (fun c pre A B row hs hg hr => hs)
          ⟨⟨⟨by simp, by simp⟩, hN⟩, hD1⟩
          (fun x => { tmps := #[.int .i64 r, .int .i64 at_, undef, .pointer (some ⟨w.heap.size, 0, none⟩), .pointer (some ⟨w.heap.size + 1, 0, none⟩), .pointer (some ⟨w.heap.size + 1 + 1, 0, none⟩), .func (.func 23) #[] #[.pointer (some ⟨w.heap.size + 1 + 1 + 1, 0, none⟩)], .pointer (some ⟨W.heap.size, 0, none⟩), .pointer (some ⟨W.heap.size + 1, 0, none⟩), .pointer (some ⟨W.heap.size + 1 + 1, 0, none⟩), .int .i64 x, .int .i64 (letsTo r k).length, .int .i64 k, .int .i64 r, .int .i64 r, .func (.func 23) #[] #[.pointer (some ⟨w.heap.size + 1 + 1 + 1, 0, none⟩)], .func (.func 23) #[] #[.pointer (some ⟨w.heap.size + 1 + 1 + 1, 0, none⟩)], .bool false, .int .i64 1, .bool true, .int .i64 0, .int .i64 1, .func (.func 23) #[] #[.pointer (some ⟨w.heap.size + 1 + 1 + 1, 0, none⟩)], .int .i64 x, undef, undef, undef, undef, undef, undef, undef, undef, undef, undef, undef, undef, undef, undef, undef, undef, undef, undef, undef, .int .i64 k, .bool false, u45, u46, u47, u48, u49, u50, u51, .int .i64 0, .bool false, .bool false, undef, undef, undef, .bool false, .int .i64 0, undef], defers := [] }) ?assign2 ?body2 ?done2 ?stop2
        case assign2 =>
          intro l x V K hK2
          gi_wp2
          exact hK2
        case body2 =>
          rintro l pre x V ⟨⟨hok, hH⟩, hmk⟩ hlen
          have HOK := Lib.hid hok
          have HH2 := Lib.hid hH
          have HMK := Lib.hid hmk
          have cl := hH.cl
          have fl := hH.fl
          have ca := hH.ca
          have cres := hH.cres
          have fres := hH.fres
          have cn := hH.cn
          have fn := hH.fn
          have cr := hH.cr
          clear hok hH hmk hN hD1 HK HH
          by_cases h1 : x ≤ lastOf pre
          · have d1 : decide (x ≤ lastOf pre) = true := by simpa using h1
            have BAD := Lib.hid (okL_bad1 (r := r) h1)
            clear h1
            gi_wp2_with (first | (refine ⟨(trivial : Fence.wide.fn 10), ?_⟩; gi_at_call 10; refine (CallsIn.inRound l (callsIn_wide.2 (refAllows_any _ _ _))).mono ?_; rintro e w' ⟨rfl, rfl⟩) | (refine ⟨(trivial : Fence.wide.fn 10), ?_⟩))
            exact ⟨KeepsOthers.setCell _ _ _, rfl, BAD.out⟩
          · have d1 : decide (x ≤ lastOf pre) = false := by simpa using h1
            by_cases h2 : allowB r x = true
            · have OK := Lib.hid (okL_snoc HOK.out (by omega) h2)
              have HEND := Lib.hid ((HH2.out.last (by omega) (by omega) (by omega) x).many (by omega) (by omega) (by omega) ((pre.length : Int) + 1))
              have q1 : ¬ W.heap.size + 1 + 1 = W.heap.size + 1 := by omega
              clear h1
              gi_wp2_with (first | (refine ⟨(trivial : Fence.wide.fn 10), ?_⟩; gi_at_call 10; refine (CallsIn.inRound l (callsIn_wide.2 (refAllows_any _ _ _))).mono ?_; rintro e w' ⟨rfl, rfl⟩) | (refine ⟨(trivial : Fence.wide.fn 10), ?_⟩))
              exact ⟨(KeepsOthers.setCell _ _ _).trans (KeepsOthers.setCell _ _ _), ((Below.refl _ V).setCell (p := ⟨W.heap.size + 1 + 1, 0, none⟩) (by show w.heap.size + 4 ≤ W.heap.size + 1 + 1; omega) _).setCell (p := ⟨W.heap.size + 1, 0, none⟩) (by show w.heap.size + 4 ≤ W.heap.size + 1; omega) _, ⟨OK.out, by rw [lastOf_snoc, List.length_append, List.length_singleton, Int.natCast_add]; exact HEND.out⟩, (KeepsOthers.setCell _ _ _).same D _ ((KeepsOthers.setCell _ _ _).same D _ HMK.out rfl) rfl⟩
            · have h2' : allowB r x = false := by simpa using h2
              have BAD := Lib.hid (okL_bad2 (l := pre) h2')
              clear h1 h2
              gi_wp2_with (first | (refine ⟨(trivial : Fence.wide.fn 10), ?_⟩; gi_at_call 10; refine (CallsIn.inRound l (callsIn_wide.2 (refAllows_any _ _ _))).mono ?_; rintro e w' ⟨rfl, rfl⟩) | (refine ⟨(trivial : Fence.wide.fn 10), ?_⟩))
              exact ⟨KeepsOthers.setCell _ _ _, rfl, BAD.out⟩
        case done2 =>
          rintro D2 ys V hD2 rfl ⟨⟨_, hH⟩, hmk⟩ hK2
          have HH2 := Lib.hid hH
          have HM := Lib.hid hmk
          have HK2 := Lib.hid hK2
          have ca := hH.ca
          have cr := hH.cr
          have cn := hH.cn
          have vsz := lt_cell hH.cl
          clear hN hD1 HK HH hH hmk hK2
          gi_wp2
          gi_loop [11, 12] (fun m t => ∃ k : Nat, 1 ≤ k ∧ k ≤ 5 ∧ t = .int .i64 k ∧ m = .int .i64 (letsTo r k).length) (fun _ t => 5 - (intOf t).toNat)
          case atStart => exact ⟨1, by omega, by omega, rfl, rfl⟩
          case round =>
            obtain ⟨k2, hk1', hk5', rfl, rfl⟩ := hrel
            have hlen := lets_len r k2
            by_cases h4 : k2 ≤ 4
            · by_cases ha : allowB r k2 = true
              · have HA := Lib.hid (many_yes hk1' h4 ha)
                gi_wp2_with (refine ⟨trivial, ?_⟩; gi_at_call 10; refine (callsIn_wide.2 (refAllows_any _ _ _)).mono ?_; rintro e w' ⟨rfl, rfl⟩)
                go_round
                case rel => exact ⟨k2 + 1, by omega, by omega, by go_num, by rw [HA.out]⟩
                case measure => simp [intOf]; omega
              · have ha' : allowB r k2 = false := by simpa using ha
                have HA := Lib.hid (many_no hk1' h4 ha')
                clear ha
                gi_wp2_with (refine ⟨trivial, ?_⟩; gi_at_call 10; refine (callsIn_wide.2 (refAllows_any _ _ _)).mono ?_; rintro e w' ⟨rfl, rfl⟩)
                go_round
                case rel => exact ⟨k2 + 1, by omega, by omega, by go_num, by rw [HA.out]⟩
                case measure => simp [intOf]; omega
            · have hge : ¬ ((k2 : Int) ≤ 4) := by omega
              have hk2 : k2 = 5 := by omega
              have hsame : (letsTo r k2).length = (lets r).length := by rw [hk2]; rfl
              rw [hsame]
              have wsv : w.heap.size + 4 ≤ V.heap.size := by omega
              have cres2 : ∀ V2, Below V.heap.size V V2 → V2.cell? ⟨w.heap.size + 1, 0, none⟩ = some (.bool false) := fun V2 hb => (hb.cell (p := ⟨w.heap.size + 1, 0, none⟩) (by show w.heap.size + 1 < V.heap.size; omega)).trans HH2.out.cres
              have fres2 : ∀ V2, Below V.heap.size V V2 → V2.frozen? ⟨w.heap.size + 1, 0, none⟩ = false := fun V2 hb => (hb.frozen (p := ⟨w.heap.size + 1, 0, none⟩) (by show w.heap.size + 1 < V.heap.size; omega)).trans HH2.out.fres
              have CR := Lib.hid cres2
              have FR := Lib.hid fres2
              clear h4 hlen hk2 hsame cres2 fres2
              gi_wp2
              rw [roundsIn_succ]
              gi_wp2_with (refine ⟨trivial, ?_⟩; gi_at_call 11; refine (callsIn_wide.2 (known_any _)).mono ?_; rintro e V3 ⟨rfl, hb3⟩; have hb4 := ((Below.refl V.heap.size V).alloc (Nat.le_refl _) (.cells #[.int .i64 2] 3)).trans (hb3.mono (by simp)); have c3 := CR.out V3 hb4; have f3 := FR.out V3 hb4)
              have m1 := (KeepsOthers.setCell V3 ⟨w.heap.size + 1, 0, none⟩ (.bool true)).same D _ (mark_below HM.out hb4) rfl
              have m2 := (KeepsOthers.setCell V3 ⟨w.heap.size + 1, 0, none⟩ (.bool true)).same D2 _ (mark_below HK2.out hb4) rfl
              have hne : D ≠ D2 := by omega
              have m3 := (World.putObj_heap_other (w := V3.setCell ⟨w.heap.size + 1, 0, none⟩ (.bool true)) (o := .deferred none) hne).trans m1
              refine ⟨by simp, .inl ⟨_, _, rfl, run_takeDeferred m2, ⟨by simp, .inl ⟨_, _, rfl, run_takeDeferred m3, ?_⟩⟩⟩⟩
              have d5 := World.cell?_setCell_same' V3 ⟨w.heap.size + 1, 0, none⟩ (.bool true) (by rw [CR.out V3 hb4]; rfl)
              have d6 := cell_kept d5 (grownBy_putObj' _ D2 (.deferred none)) (fun r e => by cases e; exact ⟨_, m2, rfl⟩)
              have d7 := cell_kept d6 (grownBy_putObj' _ D (.deferred none)) (fun r e => by cases e; exact ⟨_, m3, rfl⟩)
              have hB := (HH2.out.b.trans (hb4.mono (by omega))).setCell (p := ⟨w.heap.size + 1, 0, none⟩) (by show w.heap.size ≤ w.heap.size + 1; omega) (.bool true)
              refine ⟨.bool true, ?_, rfl, (hB.trans (belowK_b (w := w) (Nat.le_refl _) _ D2 _ _ (by omega) m2 rfl rfl)).trans (belowK_b (w := w) (Nat.le_refl _) _ D _ _ (by omega) m3 rfl rfl)⟩
              simp [results, Try.f3, go_sem, d7]
        case stop2 =>
          rintro D2 c pre V _ hpre ⟨_, hbad⟩ _
          exact absurd (okL_prefix hpre (okL_lets r)) hbad
end Go.Proofs.Ytkkoepidjgmkbaa
