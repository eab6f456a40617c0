/-
  The walks of Text, and of the reference's.
-/
import Derived.Test.YtneiclolkfcboaaWalkE
import Derived.Laws.BytesArg
import Derived.Deep.AppendLies
import Derived.Deep.RegionLaw
import Derived.RangeFuncBox
namespace Go.Proofs.Ytneiclolkfcboaa
open Go.RowKit

theorem u57 : Try.prog.underlying 57 = some (.slice 5) := by kernel_rfl
theorem u5 : Try.prog.underlying 5 = some (.int .u8) := by kernel_rfl
theorem u9 : Try.prog.underlying 9 = some .string := by kernel_rfl
theorem info5 : (Try.prog.info? 5).map (fun i => (i.zero, i.size, i.bytes)) = some (some (.int .u8 0), 1, 1) := by kernel_rfl

/-- A digit. -/
def dig (n : Int) : Int := if n < 10 then 48 + n else 87 + n
theorem dig_bounds {n : Int} (h0 : 0 ≤ n) (h1 : n < 16) : 48 ≤ dig n ∧ dig n < 103 := by unfold dig; split <;> omega
def digits : ByteArray := ⟨#[48, 49, 50, 51, 52, 53, 54, 55, 56, 57, 97, 98, 99, 100, 101, 102]⟩

theorem digAt0 (w : World) : Sem.run Try.prog (Instr.index 9 (.string { data := #[48, 49, 50, 51, 52, 53, 54, 55, 56, 57, 97, 98, 99, 100, 101, 102] }) (.int .u8 0)) w = .ok (.int .u8 48) w := by kernel_rfl
theorem digAt1 (w : World) : Sem.run Try.prog (Instr.index 9 (.string { data := #[48, 49, 50, 51, 52, 53, 54, 55, 56, 57, 97, 98, 99, 100, 101, 102] }) (.int .u8 1)) w = .ok (.int .u8 49) w := by kernel_rfl
theorem digAt2 (w : World) : Sem.run Try.prog (Instr.index 9 (.string { data := #[48, 49, 50, 51, 52, 53, 54, 55, 56, 57, 97, 98, 99, 100, 101, 102] }) (.int .u8 2)) w = .ok (.int .u8 50) w := by kernel_rfl
theorem digAt3 (w : World) : Sem.run Try.prog (Instr.index 9 (.string { data := #[48, 49, 50, 51, 52, 53, 54, 55, 56, 57, 97, 98, 99, 100, 101, 102] }) (.int .u8 3)) w = .ok (.int .u8 51) w := by kernel_rfl
theorem digAt4 (w : World) : Sem.run Try.prog (Instr.index 9 (.string { data := #[48, 49, 50, 51, 52, 53, 54, 55, 56, 57, 97, 98, 99, 100, 101, 102] }) (.int .u8 4)) w = .ok (.int .u8 52) w := by kernel_rfl
theorem digAt5 (w : World) : Sem.run Try.prog (Instr.index 9 (.string { data := #[48, 49, 50, 51, 52, 53, 54, 55, 56, 57, 97, 98, 99, 100, 101, 102] }) (.int .u8 5)) w = .ok (.int .u8 53) w := by kernel_rfl
theorem digAt6 (w : World) : Sem.run Try.prog (Instr.index 9 (.string { data := #[48, 49, 50, 51, 52, 53, 54, 55, 56, 57, 97, 98, 99, 100, 101, 102] }) (.int .u8 6)) w = .ok (.int .u8 54) w := by kernel_rfl
theorem digAt7 (w : World) : Sem.run Try.prog (Instr.index 9 (.string { data := #[48, 49, 50, 51, 52, 53, 54, 55, 56, 57, 97, 98, 99, 100, 101, 102] }) (.int .u8 7)) w = .ok (.int .u8 55) w := by kernel_rfl
theorem digAt8 (w : World) : Sem.run Try.prog (Instr.index 9 (.string { data := #[48, 49, 50, 51, 52, 53, 54, 55, 56, 57, 97, 98, 99, 100, 101, 102] }) (.int .u8 8)) w = .ok (.int .u8 56) w := by kernel_rfl
theorem digAt9 (w : World) : Sem.run Try.prog (Instr.index 9 (.string { data := #[48, 49, 50, 51, 52, 53, 54, 55, 56, 57, 97, 98, 99, 100, 101, 102] }) (.int .u8 9)) w = .ok (.int .u8 57) w := by kernel_rfl
theorem digAt10 (w : World) : Sem.run Try.prog (Instr.index 9 (.string { data := #[48, 49, 50, 51, 52, 53, 54, 55, 56, 57, 97, 98, 99, 100, 101, 102] }) (.int .u8 10)) w = .ok (.int .u8 97) w := by kernel_rfl
theorem digAt11 (w : World) : Sem.run Try.prog (Instr.index 9 (.string { data := #[48, 49, 50, 51, 52, 53, 54, 55, 56, 57, 97, 98, 99, 100, 101, 102] }) (.int .u8 11)) w = .ok (.int .u8 98) w := by kernel_rfl
theorem digAt12 (w : World) : Sem.run Try.prog (Instr.index 9 (.string { data := #[48, 49, 50, 51, 52, 53, 54, 55, 56, 57, 97, 98, 99, 100, 101, 102] }) (.int .u8 12)) w = .ok (.int .u8 99) w := by kernel_rfl
theorem digAt13 (w : World) : Sem.run Try.prog (Instr.index 9 (.string { data := #[48, 49, 50, 51, 52, 53, 54, 55, 56, 57, 97, 98, 99, 100, 101, 102] }) (.int .u8 13)) w = .ok (.int .u8 100) w := by kernel_rfl
theorem digAt14 (w : World) : Sem.run Try.prog (Instr.index 9 (.string { data := #[48, 49, 50, 51, 52, 53, 54, 55, 56, 57, 97, 98, 99, 100, 101, 102] }) (.int .u8 14)) w = .ok (.int .u8 101) w := by kernel_rfl
theorem digAt15 (w : World) : Sem.run Try.prog (Instr.index 9 (.string { data := #[48, 49, 50, 51, 52, 53, 54, 55, 56, 57, 97, 98, 99, 100, 101, 102] }) (.int .u8 15)) w = .ok (.int .u8 102) w := by kernel_rfl

theorem digAt {n : Int} (h0 : 0 ≤ n) (h1 : n < 16) (k : IntKind) (hk : k = .u8) (w : World) : Sem.run Try.prog (Instr.index 9 (.string { data := #[48, 49, 50, 51, 52, 53, 54, 55, 56, 57, 97, 98, 99, 100, 101, 102] }) (.int k n)) w = .ok (.int .u8 (dig n)) w := by
  subst hk
  obtain ⟨m, rfl⟩ := Int.eq_ofNat_of_zero_le h0
  have hm : m < 16 := by omega
  clear h0 h1
  have hc : m = 0 ∨ m = 1 ∨ m = 2 ∨ m = 3 ∨ m = 4 ∨ m = 5 ∨ m = 6 ∨ m = 7 ∨ m = 8 ∨ m = 9 ∨ m = 10 ∨ m = 11 ∨ m = 12 ∨ m = 13 ∨ m = 14 ∨ m = 15 := by omega
  rcases hc with rfl | rfl | rfl | rfl | rfl | rfl | rfl | rfl | rfl | rfl | rfl | rfl | rfl | rfl | rfl | rfl
  · exact digAt0 w
  · exact digAt1 w
  · exact digAt2 w
  · exact digAt3 w
  · exact digAt4 w
  · exact digAt5 w
  · exact digAt6 w
  · exact digAt7 w
  · exact digAt8 w
  · exact digAt9 w
  · exact digAt10 w
  · exact digAt11 w
  · exact digAt12 w
  · exact digAt13 w
  · exact digAt14 w
  · exact digAt15 w

/-- The digits of the first k bytes. -/
def digs (p : Int) : Nat → List Int
  | 0 => []
  | k + 1 => digs p k ++ [dig (byt p k / 16), dig (byt p k % 16)]
theorem digs_len (p : Int) : ∀ k : Nat, (digs p k).length = 2 * k
  | 0 => rfl
  | k + 1 => by
    show (digs p k ++ _).length = _
    rw [List.length_append, digs_len p k]; simp; omega
def textOf (p : Int) : ByteArray := strOfNums (digs p 4)
def valsB (l : List Int) : List Value := l.map (Value.int .u8)
theorem valsB_one (l : List Int) : ∀ u ∈ valsB l, u.oneCell' = true := by
  intro u hu
  simp only [valsB, List.mem_map] at hu
  obtain ⟨j, _, rfl⟩ := hu
  rfl

theorem nib {b : Int} (h : 0 ≤ b ∧ b < 256) : bits .and .u8 b 15 = b % 16 := by
  obtain ⟨m, rfl⟩ := Int.eq_ofNat_of_zero_le h.1
  have e : (15 : Int) = ((15 : Nat) : Int) := rfl
  rw [e, u8_and_nat m 15 (by omega) (by omega), show (15 : Nat) = 2 ^ 4 - 1 from rfl, Nat.and_two_pow_sub_one_eq_mod]
  rfl

theorem idxk (p : Int) (k : Nat) (hk : k < 4) (w : World) : Sem.run Try.prog (Instr.index 53 (.agg #[.int .u8 (byt p 0), .int .u8 (byt p 1), .int .u8 (byt p 2), .int .u8 (byt p 3)]) (.int .i64 k)) w = .ok (.int .u8 (byt p k)) w := by
  match k, hk with
  | 0, _ => exact idx0 _ _ _ _ w
  | 1, _ => exact idx1 _ _ _ _ w
  | 2, _ => exact idx2 _ _ _ _ w
  | 3, _ => exact idx3 _ _ _ _ w

/-- An append onto nil or onto a slice of the call's own, at a step of a region that draws its order: something is there behind it. -/
theorem step_app {P : Program} {ops : Array Oper} {o : Oper} {a : Act} {K : Act → World → Prop} {Q : Exit → Act → World → Prop} {E : Prop} (w : World) (hgd : o.guard = none) (s x : Operand) (t : TypeId)
    (ho : o.op = .call { callee := .builtin .append, args := #[s, x], argTypes := #[t, t] })
    (base : Nat) (e : TypeId) (i : TypeInfo) (z : Value) (size bytes : Nat) (ht : P.underlying t = some (.slice e)) (hi : P.info? e = some i) (hz : i.zero = some z)
    (hsize : i.size = size) (hby : i.bytes = bytes) (hzs : z.cells.size = size) (hsz : 0 < size)
    (v : Value) (n : Nat) (xs : List Value) (hs : a.eval s = v) (hown : w.ownsRow base e size v n xs)
    (ad : Addr) (m c : Nat) (news : List Value) (hx : a.eval x = .slice (some ad) m c) (hl : news.length = m * size) (hnews : ∀ j u, news[j]? = some u → w.cell? (ad.add j) = some u) (h1 : ∀ u ∈ news, u.oneCell' = true)
    (hm : 0 < n + m) (h63 : n + m ≤ maxLen) (hbytes : (n + m) * bytes ≤ 140737488355328) (hbase : base ≤ w.heap.size)
    (h : ∀ g cap w', w'.ownsRow base e size (.slice (some ⟨g, 0, none⟩) (n + m) cap) (n + m) (xs ++ news) → w.grownBy w' v.ownBlock → base ≤ g → K (a.put o.dst (.slice (some ⟨g, 0, none⟩) (n + m) cap)) w') :
    if Region.wanted o (yielded ops a.tmps) = true then Oper.wp P o a w K Q else E := by
  have hw : Region.wanted o (yielded ops a.tmps) = true := by simp [Region.wanted, hgd]
  rw [if_pos hw]
  refine wp_append_own w s x t ho base e i z size bytes ht hi hz hsize hby hzs hsz v n xs hs hown ad m c news hx hl hnews h1 h63 hbytes hbase fun v' w' h2 h3 _ => ?_
  obtain ⟨g, cap, rfl, hg, _⟩ := h2.form hm
  exact h g cap w' h2 h3 hg

theorem two_src (w : World) (a b : Int) (t : TypeId) : ∀ j u, (valsB [a, b])[j]? = some u → (w.alloc (.cells #[.int .u8 a, .int .u8 b] t)).cell? ((⟨w.heap.size, 0, none⟩ : Addr).add j) = some u := by
  intro j u hu
  match j with
  | 0 => simp [valsB] at hu; subst hu; go_simp
  | 1 => simp [valsB] at hu; subst hu; go_simp
  | j + 2 => simp [valsB] at hu

theorem text_conv {w : World} {base g cap : Nat} {p : Int} (h : w.ownsRow base 5 1 (.slice (some ⟨g, 0, none⟩) 8 cap) 8 (valsB (digs p 4))) :
    (convert 57 9 (.slice (some ⟨g, 0, none⟩) 8 cap)).run Try.prog w = .ok (.string (textOf p)) w := by
  refine run_convert_bytes_arg w 57 5 u57 u5 g 0 8 cap (digs p 4) (digs_len p 4) (fun i hi => ?_) 9 u9
  have := h.cellAt i (by omega)
  have hl : i < (digs p 4).length := by rw [digs_len]; omega
  simp [valsB, List.getElem?_eq_getElem hl] at this
  rw [Nat.zero_add] 
  simpa [List.getD, List.getElem?_eq_getElem hl] using this

set_option maxRecDepth 100000 in
set_option maxHeartbeats 1000000 in
theorem text_bad (p : Int) (w : World) (h : IsMask p) (hm : mayB p = false) :
    Calls Try.prog 24 #[.int .u32 p] w fun e w' => e = .returned (.tuple #[.string ByteArray.empty, .int .i64 2]) ∧ Below w.heap.size w w' := by
  go_enter Try.func24, Try.ntmps24
  go_wp2_with fail
  go_at_call 9
  refine (may_any _ _ h).mono ?_
  rintro e w2 ⟨rfl, hb⟩
  rw [hm]
  go_wp2
  go_ret2
  exact ⟨rfl, hb⟩

set_option maxRecDepth 100000 in
set_option maxHeartbeats 2000000 in
theorem text_good (p : Int) (w : World) (h : IsMask p) (hm : mayB p = true) :
    Calls Try.prog 24 #[.int .u32 p] w fun e w' => e = .returned (.tuple #[.string (textOf p), .int .i64 0]) ∧ Below w.heap.size w w' := by
  have H := Lib.hid h
  obtain ⟨i0, hi, hz0, hz1, hz2⟩ := info_parts info5
  have HI := Lib.hid hi
  have HZ0 := Lib.hid hz0
  have HZ1 := Lib.hid hz1
  have HZ2 := Lib.hid hz2
  clear hi hz0 hz1 hz2 h
  go_enter Try.func24, Try.ntmps24
  go_wp2_with fail
  go_at_call 9
  refine (may_any _ _ H.out).mono ?_
  rintro e w2 ⟨rfl, hb⟩
  rw [hm]
  clear hm
  go_wp2_with fail
  go_at_call 28
  refine (bytes_any _ _ H.out).mono ?_
  rintro e w3 ⟨rfl, hb3⟩
  have HB := Lib.hid (hb.trans (hb3.mono hb.size))
  clear hb hb3
  go_wp2_with fail
  go_loopw [4, 12] (fun out i wr => ∃ k : Nat, k ≤ 4 ∧ i = .int .i64 k ∧ wr.ownsRow w.heap.size 5 1 out (2 * k) (valsB (digs p k)) ∧ Below w.heap.size w wr) (fun _ i _ => 4 - (intOf i).toNat)
  case atStart => exact ⟨0, by omega, rfl, World.ownsRow_nil _ _ _ _, HB.out⟩
  case round =>
    obtain ⟨k, hk, rfl, hown, hbr⟩ := hrel
    by_cases h4 : k = 4
    · subst h4
      obtain ⟨g, cap, rfl⟩ := ownsRow_succ (k := 7) hown
      have CV := text_conv hown
      have HBR := Lib.hid hbr
      clear hown hbr
      go_wp2
      go_ret2
      exact ⟨rfl, HBR.out⟩
    · have hlt : k < 4 := by omega
      have IK := idxk p k hlt
      have NB := nib (byt_bounds H.out k)
      have DA := fun W => digAt (n := byt p k / 16) (by have := byt_bounds H.out k; omega) (by have := byt_bounds H.out k; omega) .u8 rfl W
      have DB := fun W => digAt (n := byt p k % 16) (by omega) (by omega) .u8 rfl W
      have HBR := Lib.hid hbr
      have HO := Lib.hid hown
      clear h4 hown hbr
      go_wp2_with fail
      go_region_law (refine step_app _ rfl (.tmp 15) (.tmp 22) 57 rfl w.heap.size 5 i0 (.int .u8 0) 1 1 u57 HI.out HZ0.out HZ1.out HZ2.out rfl (by decide) _ (2 * k) _ (by simp [Act.eval]) (HO.out.drew.alloc _) ⟨wr.drew.heap.size, 0, none⟩ 2 2 (valsB [dig (byt p k / 16), dig (byt p k % 16)]) (by simp [Act.eval]) rfl (two_src _ _ _ _) (valsB_one _) (by omega) (by unfold maxLen; omega) (by omega) (by simp; exact Nat.le_trans HBR.out.size (by simp)) ?_; intro g cp w4 hown4 hg4 hgb4)
      all_goals (
        have HB4 := Lib.hid (((HBR.out.alloc HBR.out.size _).drew).grown hg4 (Nat.le_trans HBR.out.size (by simp)) (fun k e => (HO.out.lt k e).1))
        have hv : valsB (digs p k) ++ valsB [dig (byt p k / 16), dig (byt p k % 16)] = valsB (digs p (k + 1)) := (List.map_append).symm
        rw [hv] at hown4
        have HO4 := Lib.hid hown4
        clear hown4 hg4 hv HBR HO
        go_wp2
        exact ⟨⟨k + 1, by omega, by go_num, HO4.out, HB4.out⟩, by simp [intOf]; omega⟩)


end Go.Proofs.Ytneiclolkfcboaa
