/- Span: lay, spot, lists compared. -/
import Derived.Test.YtlbohmfhdchabaaSpanO
import Derived.Laws.StructEq
namespace Go.Proofs.Ytlbohmfhdchabaa
open Go.RowKit

set_option maxHeartbeats 1000000 in
theorem spot_any (a b : Int) (w : World) : Calls Try.prog 25 #[.int .i64 a, .int .i64 b] w fun e w' => e = .returned (.agg #[.int .i64 a, .int .i64 b]) ∧ Below w.heap.size w w' := by
  have hr := row2 w (.int .i64 a) (.int .i64 b) 45
  obtain ⟨e0, e1⟩ := row2_cells hr
  go_enter Try.func25, Try.ntmps25
  go_wp2
  exact bodyPost_ret (v := .agg #[.int .i64 a, .int .i64 b]) (by simp [results, Try.results25, go_sem, e0, e1]) rfl ⟨rfl, (Below.refl _ w).alloc (Nat.le_refl _) _⟩

set_option maxHeartbeats 1000000 in
theorem lay_any (K C : Int) (a : Option Addr) (n cap : Nat) (M : Nat → Int) (w : World) :
    Calls Try.prog 41 #[.int .i64 K, .int .i64 C, .slice a n cap] w fun e w' => e = .returned (layV ⟨K, n, M, C⟩ (.slice a n cap)) ∧ Below w.heap.size w w' := by
  have hr := row3 w (.int .i64 K) (.slice a n cap) (.int .i64 C) 24
  obtain ⟨e0, e1, e2⟩ := row3_cells hr
  go_enter Try.func41, Try.ntmps41
  go_wp2
  exact bodyPost_ret (v := .agg #[.int .i64 K, .slice a n cap, .int .i64 C]) (by simp [results, Try.results41, go_sem, e0, e1, e2]) rfl ⟨rfl, (Below.refl _ w).alloc (Nat.le_refl _) _⟩

theorem guard_spot : Try.prog.eqGuardType Try.prog.depth 45 = false := by kernel_rfl
theorem equalIn_spot (a b c d : Int) (w : World) : (Op.equalIn 10000 45 (.agg #[.int .i64 a, .int .i64 b]) (.agg #[.int .i64 c, .int .i64 d])).run Try.prog w = .ok (a == c && b == d) w := by
  rw [run_equalIn_agg w 9999 _ _ _ (by kernel_rfl) (by kernel_rfl)]
  have hf : (Try.prog.fieldsOf 45).toList = [(Try.prog.fieldsOf 45).toList[0]!, (Try.prog.fieldsOf 45).toList[1]!] := by kernel_rfl
  have h0 : ((Try.prog.fieldsOf 45).toList[0]!).name = "Member" ∧ ((Try.prog.fieldsOf 45).toList[0]!).type = 3 ∧ ((Try.prog.fieldsOf 45).toList[0]!).offset = 0 := ⟨by kernel_rfl, by kernel_rfl, by kernel_rfl⟩
  have h1 : ((Try.prog.fieldsOf 45).toList[1]!).name = "Page" ∧ ((Try.prog.fieldsOf 45).toList[1]!).type = 3 ∧ ((Try.prog.fieldsOf 45).toList[1]!).offset = 1 := ⟨by kernel_rfl, by kernel_rfl, by kernel_rfl⟩
  rw [hf]
  generalize (Try.prog.fieldsOf 45).toList[0]! = f0 at *
  generalize (Try.prog.fieldsOf 45).toList[1]! = f1 at *
  clear hf
  simp [Op.eqFields, go_sem, h0.1, h0.2.1, h0.2.2, h1.1, h1.2.1, h1.2.2]
  by_cases e1 : a = c <;> by_cases e2 : b = d <;> simp [e1, e2]

def sameSp (n : Nat) (f : Nat → Int × Int) (m : Nat) (g : Nat → Int × Int) : Bool := decide (n = m) && !anyB (fun i => !decide (f i = g i)) n
theorem sameSp_true {n m : Nat} {f g : Nat → Int × Int} (h : n = m) (he : ∀ i, i < n → f i = g i) : sameSp n f m g = true := by
  unfold sameSp
  rw [anyB_false.2 (fun i hi => by simp [he i hi])]
  simp [h]
theorem sameSp_len {n m : Nat} {f g : Nat → Int × Int} (h : n ≠ m) : sameSp n f m g = false := by simp [sameSp, h]
theorem sameSp_diff {n m : Nat} {f g : Nat → Int × Int} {i : Nat} (hi : i < n) (he : f i ≠ g i) : sameSp n f m g = false := by
  unfold sameSp
  rw [anyB_true.2 ⟨i, hi, by simp [he]⟩]
  simp
theorem sameSp_iff {n m : Nat} {f g : Nat → Int × Int} : sameSp n f m g = true ↔ n = m ∧ ∀ i, i < n → f i = g i := by
  constructor
  · intro h
    by_cases hn : n = m
    · refine ⟨hn, fun i hi => Classical.byContradiction fun he => ?_⟩
      rw [sameSp_diff hi he] at h; cases h
    · rw [sameSp_len hn] at h; cases h
  · exact fun h => sameSp_true h.1 h.2

set_option maxHeartbeats 2000000 in
theorem Same_any (va vb : Value) (n m : Nat) (f g : Nat → Int × Int) (w : World) (ha : SpotsAt w va n f) (hb : SpotsAt w vb m g) (hn : n ≤ 1000000) (hm : m ≤ 1000000) :
    Calls Try.prog 20 #[va, vb] w fun e w' => e = .returned (.bool (sameSp n f m g)) ∧ Below w.heap.size w w' := by
  obtain ⟨aa, ca, rfl⟩ := ha.slice
  obtain ⟨ab, cb, rfl⟩ := hb.slice
  have HA := Lib.hid ha; clear ha
  have HB := Lib.hid hb; clear hb
  go_enter Try.func20, Try.ntmps20
  by_cases hnm : n = m
  · subst hnm
    go_wp2_with fail
    go_loopw [5] (fun t W => ∃ k : Nat, k ≤ n ∧ t = .int .i64 k ∧ (∀ i, i < k → f i = g i) ∧ Below w.heap.size w W) (fun t _ => n - (intOf t).toNat)
    case atStart => exact ⟨0, by omega, rfl, fun i hi => absurd hi (by omega), Below.refl _ _⟩
    case round =>
      obtain ⟨k, hk, rfl, hq, hbl⟩ := hrel
      have Hq := Lib.hid hq; clear hq
      by_cases hlt : k < n
      · rcases HA.out.all hbl with ⟨h0, _⟩ | ⟨b1, o1, c1, heq, h0, hc1⟩
        · omega
        simp only [Value.slice.injEq, true_and] at heq
        obtain ⟨rfl, rfl⟩ := heq
        rcases HB.out.all hbl with ⟨h0, _⟩ | ⟨b2, o2, c2, heq, h0, hc2⟩
        · omega
        simp only [Value.slice.injEq, true_and] at heq
        obtain ⟨rfl, rfl⟩ := heq
        obtain ⟨x1, x2⟩ := cells_spot hc1 hlt
        obtain ⟨y1, y2⟩ := cells_spot hc2 hlt
        have Hb := Lib.hid hbl; clear hbl hc1 hc2
        have hcmp := equalIn_spot (f k).1 (f k).2 (g k).1 (g k).2
        have hgd := guard_spot
        by_cases heq : f k = g k
        · have h1 : ((f k).1 == (g k).1) = true := by rw [heq]; simp
          have h2 : ((f k).2 == (g k).2) = true := by rw [heq]; simp
          rw [h1, h2] at hcmp
          have Heq := Lib.hid heq; clear heq h1 h2
          go_wp2_with fail
          go_quiet (fail)
          go_wp2
          go_roundw
          case rel => exact ⟨k + 1, by omega, by go_num, fun i hi => if h : i = k then by rw [h]; exact Heq.out else Hq.out i (by omega), Hb.out.trans (below_drewN _ _ _)⟩
          case measure => simp [intOf]; omega
        · have h1 : ((f k).1 == (g k).1 && (f k).2 == (g k).2) = false := by
            rw [Bool.and_eq_false_iff, beq_eq_false_iff_ne, beq_eq_false_iff_ne]
            by_cases h : (f k).1 = (g k).1
            · exact .inr fun h2 => heq (Prod.ext h h2)
            · exact .inl h
          rw [h1] at hcmp
          have Heq := Lib.hid heq; clear heq h1
          go_wp2_with fail
          go_quiet (fail)
          go_wp2
          go_ret
          exact ⟨by rw [sameSp_diff hlt Heq.out]; rfl, Hb.out.trans (below_drewN _ _ _)⟩
      · obtain rfl : k = n := by omega
        go_wp2
        go_ret
        exact ⟨by rw [sameSp_true rfl Hq.out]; rfl, hbl⟩
  · have hne : ((n : Int) != m) = true := by rw [bne_iff_ne]; omega
    go_wp2
    go_ret
    exact ⟨by rw [sameSp_len hnm]; rfl, Below.refl _ _⟩

set_option maxHeartbeats 2000000 in
theorem Equal_any (va vb : Value) (n m : Nat) (f g : Nat → Int × Int) (w : World) (ha : SpotsAt w va n f) (hb : SpotsAt w vb m g) (hn : n ≤ 1000000) (hm : m ≤ 1000000) :
    Calls Try.prog 50 #[va, vb] w fun e w' => e = .returned (.bool (sameSp n f m g)) ∧ Below w.heap.size w w' := by
  obtain ⟨aa, ca, rfl⟩ := ha.slice
  obtain ⟨ab, cb, rfl⟩ := hb.slice
  have HA := Lib.hid ha; clear ha
  have HB := Lib.hid hb; clear hb
  go_enter Try.func50, Try.ntmps50
  by_cases hnm : n = m
  · subst hnm
    go_wp2_with fail
    go_loopw [13] (fun t W => ∃ k : Nat, k ≤ n ∧ t = .int .i64 k ∧ (∀ i, i < k → f i = g i) ∧ Below w.heap.size w W) (fun t _ => n - (intOf t).toNat)
    case atStart => exact ⟨0, by omega, rfl, fun i hi => absurd hi (by omega), Below.refl _ _⟩
    case round =>
      obtain ⟨k, hk, rfl, hq, hbl⟩ := hrel
      have Hq := Lib.hid hq; clear hq
      by_cases hlt : k < n
      · rcases HA.out.all hbl with ⟨h0, _⟩ | ⟨b1, o1, c1, heq, h0, hc1⟩
        · omega
        simp only [Value.slice.injEq, true_and] at heq
        obtain ⟨rfl, rfl⟩ := heq
        rcases HB.out.all hbl with ⟨h0, _⟩ | ⟨b2, o2, c2, heq, h0, hc2⟩
        · omega
        simp only [Value.slice.injEq, true_and] at heq
        obtain ⟨rfl, rfl⟩ := heq
        obtain ⟨x1, x2⟩ := cells_spot hc1 hlt
        obtain ⟨y1, y2⟩ := cells_spot hc2 hlt
        have Hb := Lib.hid hbl; clear hbl hc1 hc2
        have hcmp := equalIn_spot (f k).1 (f k).2 (g k).1 (g k).2
        have hgd := guard_spot
        by_cases heq : f k = g k
        · have h1 : ((f k).1 == (g k).1) = true := by rw [heq]; simp
          have h2 : ((f k).2 == (g k).2) = true := by rw [heq]; simp
          rw [h1, h2] at hcmp
          have Heq := Lib.hid heq; clear heq h1 h2
          go_wp2_with fail
          go_quiet (fail)
          go_wp2
          go_roundw
          case rel => exact ⟨k + 1, by omega, by go_num, fun i hi => if h : i = k then by rw [h]; exact Heq.out else Hq.out i (by omega), Hb.out.trans (below_drewN _ _ _)⟩
          case measure => simp [intOf]; omega
        · have h1 : ((f k).1 == (g k).1 && (f k).2 == (g k).2) = false := by
            rw [Bool.and_eq_false_iff, beq_eq_false_iff_ne, beq_eq_false_iff_ne]
            by_cases h : (f k).1 = (g k).1
            · exact .inr fun h2 => heq (Prod.ext h h2)
            · exact .inl h
          rw [h1] at hcmp
          have Heq := Lib.hid heq; clear heq h1
          go_wp2_with fail
          go_quiet (fail)
          go_wp2
          go_ret
          exact ⟨by rw [sameSp_diff hlt Heq.out]; rfl, Hb.out.trans (below_drewN _ _ _)⟩
      · obtain rfl : k = n := by omega
        go_wp2
        go_ret
        exact ⟨by rw [sameSp_true rfl Hq.out]; rfl, hbl⟩
  · have hne : ((n : Int) != m) = true := by rw [bne_iff_ne]; omega
    go_wp2
    go_ret
    exact ⟨by rw [sameSp_len hnm]; rfl, Below.refl _ _⟩

/-- What a slice of numbers shows. -/
def IntsAt (w : World) (v : Value) (n : Nat) (f : Nat → Int) : Prop := (n = 0 ∧ ∃ a cap, v = .slice a 0 cap) ∨ ∃ b off cap, v = .slice (some ⟨b, off, none⟩) n cap ∧ 0 < n ∧ Cells w b off n (intsV f)
theorem IntsAt.slice {w : World} {v : Value} {n : Nat} {f : Nat → Int} (h : IntsAt w v n f) : ∃ a cap, v = .slice a n cap := by
  rcases h with ⟨rfl, a, cap, rfl⟩ | ⟨b, off, cap, rfl, _⟩
  · exact ⟨_, _, rfl⟩
  · exact ⟨_, _, rfl⟩
theorem IntsAt.all {w w' : World} {v : Value} {n : Nat} {f : Nat → Int} (h : IntsAt w v n f) (hb : Below w.heap.size w w') : IntsAt w' v n f := by
  rcases h with h | ⟨b, off, cap, hv, hn, hc⟩
  · exact .inl h
  · exact .inr ⟨b, off, cap, hv, hn, hc.all hb⟩
theorem Own.intsAt {w : World} {B : Nat} {v : Value} {n : Nat} {f : Nat → Int} (h : Own w B 3 v n (intsV f)) : IntsAt w v n f := by
  by_cases hn : 0 < n
  · obtain ⟨g, cap, hv, _, hr, _⟩ := h.row hn
    exact .inr ⟨g, 0, cap, hv, hn, hr.reads⟩
  · obtain rfl : n = 0 := by omega
    exact .inl ⟨rfl, h.slice⟩

def sameIn (n : Nat) (f : Nat → Int) (m : Nat) (g : Nat → Int) : Bool := decide (n = m) && !anyB (fun i => !decide (f i = g i)) n
theorem sameIn_true {n m : Nat} {f g : Nat → Int} (h : n = m) (he : ∀ i, i < n → f i = g i) : sameIn n f m g = true := by
  unfold sameIn
  rw [anyB_false.2 (fun i hi => by simp [he i hi])]
  simp [h]
theorem sameIn_len {n m : Nat} {f g : Nat → Int} (h : n ≠ m) : sameIn n f m g = false := by simp [sameIn, h]
theorem sameIn_diff {n m : Nat} {f g : Nat → Int} {i : Nat} (hi : i < n) (he : f i ≠ g i) : sameIn n f m g = false := by
  unfold sameIn
  rw [anyB_true.2 ⟨i, hi, by simp [he]⟩]
  simp
theorem sameIn_iff {n m : Nat} {f g : Nat → Int} : sameIn n f m g = true ↔ n = m ∧ ∀ i, i < n → f i = g i := by
  constructor
  · intro h
    by_cases hn : n = m
    · refine ⟨hn, fun i hi => Classical.byContradiction fun he => ?_⟩
      rw [sameIn_diff hi he] at h; cases h
    · rw [sameIn_len hn] at h; cases h
  · exact fun h => sameIn_true h.1 h.2

set_option maxHeartbeats 2000000 in
theorem sameInts_any (va vb : Value) (n m : Nat) (f g : Nat → Int) (w : World) (ha : IntsAt w va n f) (hb : IntsAt w vb m g) (hn : n ≤ 1000000) (hm : m ≤ 1000000) :
    Calls Try.prog 22 #[va, vb] w fun e w' => e = .returned (.bool (sameIn n f m g)) ∧ Below w.heap.size w w' := by
  obtain ⟨aa, ca, rfl⟩ := ha.slice
  obtain ⟨ab, cb, rfl⟩ := hb.slice
  have HA := Lib.hid ha; clear ha
  have HB := Lib.hid hb; clear hb
  go_enter Try.func22, Try.ntmps22
  by_cases hnm : n = m
  · subst hnm
    go_wp2_with fail
    go_loopw [5] (fun t W => ∃ k : Nat, k ≤ n ∧ t = .int .i64 k ∧ (∀ i, i < k → f i = g i) ∧ Below w.heap.size w W) (fun t _ => n - (intOf t).toNat)
    case atStart => exact ⟨0, by omega, rfl, fun i hi => absurd hi (by omega), Below.refl _ _⟩
    case round =>
      obtain ⟨k, hk, rfl, hq, hbl⟩ := hrel
      have Hq := Lib.hid hq; clear hq
      by_cases hlt : k < n
      · rcases HA.out.all hbl with ⟨h0, _⟩ | ⟨b1, o1, c1, heq, h0, hc1⟩
        · omega
        simp only [Value.slice.injEq, true_and] at heq
        obtain ⟨rfl, rfl⟩ := heq
        rcases HB.out.all hbl with ⟨h0, _⟩ | ⟨b2, o2, c2, heq, h0, hc2⟩
        · omega
        simp only [Value.slice.injEq, true_and] at heq
        obtain ⟨rfl, rfl⟩ := heq
        have x1 : wr.cell? ⟨b1, o1 + k, none⟩ = some (.int .i64 (f k)) := hc1 k hlt
        have y1 : wr.cell? ⟨b2, o2 + k, none⟩ = some (.int .i64 (g k)) := hc2 k hlt
        have Hb := Lib.hid hbl; clear hbl hc1 hc2
        by_cases heq : f k = g k
        · have h1 : (f k != g k) = false := by rw [bne_eq_false_iff_eq]; exact heq
          have Heq := Lib.hid heq; clear heq
          go_wp2_with fail
          go_quiet (fail)
          go_wp2
          go_roundw
          case rel => exact ⟨k + 1, by omega, by go_num, fun i hi => if h : i = k then by rw [h]; exact Heq.out else Hq.out i (by omega), Hb.out.trans (below_drewN _ _ _)⟩
          case measure => simp [intOf]; omega
        · have h1 : (f k != g k) = true := by rw [bne_iff_ne]; exact heq
          have Heq := Lib.hid heq; clear heq
          go_wp2_with fail
          go_quiet (fail)
          go_wp2
          go_ret
          exact ⟨by rw [sameIn_diff hlt Heq.out]; rfl, Hb.out.trans (below_drewN _ _ _)⟩
      · obtain rfl : k = n := by omega
        go_wp2
        go_ret
        exact ⟨by rw [sameIn_true rfl Hq.out]; rfl, hbl⟩
  · have hne : ((n : Int) != m) = true := by rw [bne_iff_ne]; omega
    go_wp2
    go_ret
    exact ⟨by rw [sameIn_len hnm]; rfl, Below.refl _ _⟩

/-- Is a spot among n others? -/
def hasSp (n : Nat) (f : Nat → Int × Int) (s : Int × Int) : Bool := anyB (fun i => decide (f i = s)) n

set_option maxHeartbeats 2000000 in
theorem hasSp_any (va : Value) (n : Nat) (f : Nat → Int × Int) (s : Int × Int) (w : World) (ha : SpotsAt w va n f) (hn : n ≤ 1000000) :
    Calls Try.prog 26 #[va, spotA s] w fun e w' => e = .returned (.bool (hasSp n f s)) ∧ Below w.heap.size w w' := by
  obtain ⟨aa, ca, rfl⟩ := ha.slice
  obtain ⟨x, y⟩ := s
  have hr := row2 w (.int .i64 x) (.int .i64 y) 45
  have hB : Below w.heap.size w (w.alloc (.cells #[.int .i64 x, .int .i64 y] 45)) := (Below.refl _ w).alloc (Nat.le_refl _) _
  have HA := Lib.hid (ha.all hB); clear ha
  have HR := Lib.hid hr; clear hr
  unfold spotA
  go_enter Try.func26, Try.ntmps26
  go_wp2_with fail
  generalize w.alloc (.cells #[.int .i64 x, .int .i64 y] 45) = W0 at *
  go_loopw [5] (fun t W => ∃ k : Nat, k ≤ n ∧ t = .int .i64 k ∧ (∀ i, i < k → f i ≠ (x, y)) ∧ Below W0.heap.size W0 W) (fun t _ => n - (intOf t).toNat)
  case atStart => exact ⟨0, by omega, rfl, fun i hi => absurd hi (by omega), Below.refl _ _⟩
  case round =>
    obtain ⟨k, hk, rfl, hq, hbl⟩ := hrel
    have Hq := Lib.hid hq; clear hq
    by_cases hlt : k < n
    · rcases HA.out.all hbl with ⟨h0, _⟩ | ⟨b1, o1, c1, heq, h0, hc1⟩
      · omega
      simp only [Value.slice.injEq, true_and] at heq
      obtain ⟨rfl, rfl⟩ := heq
      obtain ⟨x1, x2⟩ := cells_spot hc1 hlt
      obtain ⟨y1, y2⟩ := row2_cells (HR.out.all hbl)
      have Hb := Lib.hid hbl; clear hbl hc1
      have hcmp := equalIn_spot (f k).1 (f k).2 x y
      have hgd := guard_spot
      by_cases heq : f k = (x, y)
      · have h1 : ((f k).1 == x) = true := by rw [heq]; simp
        have h2 : ((f k).2 == y) = true := by rw [heq]; simp
        rw [h1, h2] at hcmp
        have Heq := Lib.hid heq; clear heq h1 h2
        go_wp2_with fail
        go_quiet (fail)
        go_wp2
        go_ret
        exact ⟨by rw [show hasSp n f (x, y) = true from anyB_true.2 ⟨k, hlt, by simp [Heq.out]⟩]; rfl, hB.trans ((Hb.out.trans (below_drewN _ _ _)).mono hB.size)⟩
      · have h1 : ((f k).1 == x && (f k).2 == y) = false := by
          rw [Bool.and_eq_false_iff, beq_eq_false_iff_ne, beq_eq_false_iff_ne]
          by_cases h : (f k).1 = x
          · exact .inr fun h2 => heq (Prod.ext h h2)
          · exact .inl h
        rw [h1] at hcmp
        have Heq := Lib.hid heq; clear heq h1
        go_wp2_with fail
        go_quiet (fail)
        go_wp2
        go_roundw
        case rel => exact ⟨k + 1, by omega, by go_num, fun i hi => if h : i = k then by rw [h]; exact Heq.out else Hq.out i (by omega), Hb.out.trans (below_drewN _ _ _)⟩
        case measure => simp [intOf]; omega
    · obtain rfl : k = n := by omega
      go_wp2
      go_ret
      exact ⟨by rw [show hasSp k f (x, y) = false from anyB_false.2 (fun i hi => by simp [Hq.out i hi])]; rfl, hB.trans (hbl.mono hB.size)⟩

end Go.Proofs.Ytlbohmfhdchabaa
