/- Span: State. -/
import Derived.Test.YtlbohmfhdchabaaSpanO
namespace Go.Proofs.Ytlbohmfhdchabaa
open Go.RowKit

def boolsV (f : Nat → Bool) (i : Nat) : Value := .bool (f i)
/-- A list of bools as an argument. -/
def BArg (w : World) (v : Value) (n : Nat) (f : Nat → Bool) : Prop :=
  (n = 0 ∧ ∃ a cap, v = .slice a 0 cap) ∨ ∃ b off cap, v = .slice (some ⟨b, off, none⟩) n cap ∧ 0 < n ∧ Cells w b off n (boolsV f)

theorem BArg.all {w w' : World} {v : Value} {n : Nat} {f : Nat → Bool} (h : BArg w v n f) (hb : Below w.heap.size w w') : BArg w' v n f := by
  rcases h with h | ⟨b, off, cap, h1, h2, h3⟩
  · exact .inl h
  · exact .inr ⟨b, off, cap, h1, h2, h3.all hb⟩
theorem BArg.slice {w : World} {v : Value} {n : Nat} {f : Nat → Bool} (h : BArg w v n f) : ∃ a cap, v = .slice a n cap := by
  rcases h with ⟨rfl, a, cap, rfl⟩ | ⟨b, off, cap, rfl, _⟩
  · exact ⟨_, _, rfl⟩
  · exact ⟨_, _, rfl⟩

/-- How many of f 0 .. f (n - 1) are true. -/
def cntB (f : Nat → Bool) : Nat → Nat
  | 0 => 0
  | k + 1 => cntB f k + if f k = true then 1 else 0
theorem cntB_le (f : Nat → Bool) : ∀ k, cntB f k ≤ k
  | 0 => Nat.le_refl _
  | k + 1 => by have := cntB_le f k; simp only [cntB]; split <;> omega

/-- What is left with so many dead members. -/
def Lay.lost (L : Lay) (c : Nat) : Bool := if L.K = 4 then decide ((c : Int) = L.n) else if L.K = 5 then decide ((1 : Int) < c) else decide ((0 : Int) < c)
def Lay.state (L : Lay) (c : Nat) : Int := if c = 0 then 1 else if L.lost c = true then 3 else 2

set_option maxHeartbeats 2000000 in
theorem State1_any (L : Lay) (A B G g c : Nat) (w : World) (hK : w.cell? ⟨A, 0, none⟩ = some (.int .i64 L.K)) (hc : w.cell? ⟨B, 0, none⟩ = some (.int .i64 c)) (hG : w.cell? ⟨G, 0, none⟩ = some (.pointer (some ⟨g, 0, none⟩))) (hn : w.cell? ⟨g, 3, none⟩ = some (.int .i64 L.n)) :
    Calls Try.prog 49 #[.pointer (some ⟨A, 0, none⟩), .pointer (some ⟨B, 0, none⟩), .pointer (some ⟨G, 0, none⟩)] w fun e w' => e = .returned (.bool (L.lost c)) ∧ Below w.heap.size w w' := by
  by_cases h4 : L.K = 4
  · have hr : L.lost c = ((c : Int) == L.n) := by
      unfold Lay.lost; rw [if_pos h4]
      rcases hb : ((c : Int) == L.n) with _ | _
      · exact decide_eq_false (by rw [beq_eq_false_iff_ne] at hb; exact hb)
      · exact decide_eq_true (by rw [beq_iff_eq] at hb; exact hb)
    rw [hr]
    rw [h4] at hK
    clear hr h4
    rcases hb : ((c : Int) == L.n) with _ | _
    all_goals
      go_enter Try.func49, Try.ntmps49
      go_wp2_with fail
      go_quiet (fail)
      go_wp2
      go_ret
      exact ⟨rfl, below_drewN _ _ _⟩
  · by_cases h5 : L.K = 5
    · have hr : L.lost c = decide ((1 : Int) < c) := by unfold Lay.lost; rw [if_neg h4, if_pos h5]
      rw [hr]
      rw [h5] at hK
      clear hr h4 h5
      go_enter Try.func49, Try.ntmps49
      go_wp2
      go_ret
      exact ⟨rfl, Below.refl _ _⟩
    · have hr : L.lost c = decide ((0 : Int) < c) := by unfold Lay.lost; rw [if_neg h4, if_neg h5]
      rw [hr]
      have h4' : (L.K == 4) = false := by rw [beq_eq_false_iff_ne]; exact h4
      have h5' : (L.K == 5) = false := by rw [beq_eq_false_iff_ne]; exact h5
      clear hr h4 h5
      go_enter Try.func49, Try.ntmps49
      go_wp2
      go_ret
      exact ⟨by simp, Below.refl _ _⟩

def StateP (L : Lay) (n : Nat) (f : Nat → Bool) (w : World) (e : Ending) (w' : World) : Prop :=
  ((L.Right ∧ n = L.n ∧ e = .returned (.tuple #[.int .i64 (L.state (cntB f n)), .int .i64 0])) ∨
   (¬ (L.Right ∧ n = L.n) ∧ e = .returned (.tuple #[.int .i64 0, .int .i64 1]))) ∧ Below w.heap.size w w'

set_option maxHeartbeats 4000000 in
theorem State_any (L : Lay) (sl v : Value) (n : Nat) (f : Nat → Bool) (w : World) (hs : IArg w sl L.n L.M) (hv : BArg w v n f) (hnn : n ≤ 1000) : Calls Try.prog 37 #[layV L sl, v] w (StateP L n f w) := by
  obtain ⟨hW, hr, hB⟩ := lay_setup hs
  obtain ⟨c0, c1, c2⟩ := row3_cells hr
  obtain ⟨a, cap, rfl⟩ := hs.slice
  obtain ⟨av, cv, rfl⟩ := hv.slice
  have hvW := hv.all hB
  have HW := Lib.hid hW; clear hW hs
  have HV := Lib.hid hvW; clear hvW hv
  unfold layV
  have hmf : ∀ (fn : Fn) (first cap : Array Value) (w : World), (Instr.makeFunc fn first cap).run Try.prog w = .ok (.func fn first cap) w := fun _ _ _ _ => rfl
  go_enter Try.func37, Try.ntmps37
  go_wp2_with fail
  generalize w.alloc (.cells #[.int .i64 L.K, .slice a L.n cap, .int .i64 L.C] 24) = W at *
  refine (of_any L _ W HW.out).mono ?_
  rintro e w4 ⟨hB4, (⟨hR, g, rfl, hge, hrow⟩ | ⟨hnR, rfl⟩)⟩
  · have hg : Geo w4 g L (.slice a L.n cap) := ⟨hR, hrow, HW.out.all hB4⟩
    have hgl := hrow.lt
    have hB40 := hB.trans (hB4.mono hB.size)
    by_cases hnL : n = L.n
    · subst hnL
      have hne : ((L.n : Int) != L.n) = false := by rw [bne_eq_false_iff_eq]
      have hp := RowAt.new w4 #[.pointer (some ⟨g, 0, none⟩)] 65 (fun _ => .pointer (some ⟨g, 0, none⟩)) 1 (by simp) (one_cell rfl)
      have hz := RowAt.new (w4.alloc (.cells #[.pointer (some ⟨g, 0, none⟩)] 65)) #[.int .i64 0] 3 (fun _ => .int .i64 0) 1 (by simp) (one_cell rfl)
      rw [World.size_alloc] at hz
      have hB5 : Below w4.heap.size w4 ((w4.alloc (.cells #[.pointer (some ⟨g, 0, none⟩)] 65)).alloc (.cells #[.int .i64 0] 3)) := ((Below.refl _ w4).alloc (Nat.le_refl _) _).alloc (by simp) _
      have hp5 := hp.alloc (.cells #[.int .i64 0] 3)
      have hcg : (w4.alloc (.cells #[.pointer (some ⟨g, 0, none⟩)] 65)).cell? ⟨g, 3, none⟩ = some (.int .i64 L.n) := (hg.all ((Below.refl _ w4).alloc (Nat.le_refl _) _)).cells.2.2.2.1
      have hsz5 : ((w4.alloc (.cells #[.pointer (some ⟨g, 0, none⟩)] 65)).alloc (.cells #[.int .i64 0] 3)).heap.size = w4.heap.size + 2 := by simp
      have Hg := Lib.hid hg; clear hg hR hrow
      have Hz := Lib.hid hz; clear hz
      have Hp5 := Lib.hid hp5; clear hp5 hp
      go_wp2_with fail
      have hA := (hr.all hB4).all hB5
      have hV5 := (HV.out.all hB4).all hB5
      have hB5' := hB40.trans (hB5.mono hB40.size)
      have hg5 := Hg.out.all hB5
      have hWl := hr.lt
      have hs4 := hB4.size
      clear hcg c0 c1 c2
      generalize (w4.alloc (.cells #[.pointer (some ⟨g, 0, none⟩)] 65)).alloc (.cells #[.int .i64 0] 3) = w5 at *
      have HA := Lib.hid hA; clear hA
      have HV5 := Lib.hid hV5; clear hV5
      have Hg5 := Lib.hid hg5; clear hg5
      go_loopw [27] (fun t W => ∃ k : Nat, k ≤ L.n ∧ t = .int .i64 k ∧ RowAt W (w4.heap.size + 1) 3 1 1 (fun _ => .int .i64 (cntB f k)) ∧ Below (w4.heap.size + 1) w5 W) (fun t _ => L.n - (intOf t).toNat)
      case atStart => exact ⟨0, by omega, rfl, Hz.out, Below.refl _ _⟩
      case round =>
        obtain ⟨k, hk, rfl, hrow, hb⟩ := hrel
        have z0 := hrow.cell (i := 0) (by omega)
        have zf := hrow.frozen 0
        have hck := cntB_le f k
        have hsw := hb.size
        by_cases hlt : k < L.n
        · rcases HV.out with ⟨h0, _⟩ | ⟨b, off, cap1, heq, h0, hcells⟩
          · omega
          simp only [Value.slice.injEq, true_and] at heq
          obtain ⟨rfl, rfl⟩ := heq
          have hbl := hcells.lt h0
          have hcell := (((hcells.all hB4).all hB5).below hb (by omega)) k hlt
          unfold boolsV at hcell
          have Hrow := Lib.hid hrow; clear hrow
          have Hb := Lib.hid hb; clear hb hcells
          rcases hfk : f k with _ | _
          · rw [hfk] at hcell
            have hc1 : cntB f (k + 1) = cntB f k := by simp [cntB, hfk]
            have Hc1 := Lib.hid hc1; clear hc1 hfk
            go_wp2_with fail
            go_roundw
            case rel => exact ⟨k + 1, by omega, by go_num, by rw [Hc1.out]; exact Hrow.out, Hb.out⟩
            case measure => simp [intOf]; omega
          · rw [hfk] at hcell
            have hc1 : cntB f (k + 1) = cntB f k + 1 := by simp [cntB, hfk]
            have Hc1 := Lib.hid hc1; clear hc1 hfk
            go_wp2_with fail
            go_roundw
            case rel => exact ⟨k + 1, by omega, by go_num, by rw [Hc1.out]; exact Hrow.out.set1 _, Hb.out.setCell (Nat.le_refl _) _⟩
            case measure => simp [intOf]; omega
        · obtain rfl : k = L.n := by omega
          have hK0 := (row3_cells (HA.out.below hb (by omega))).1
          have hP0 := (Hp5.out.below hb (by omega)).cell (i := 0) (by omega)
          have hG3 : wr.cell? ⟨g, 3, none⟩ = some (.int .i64 L.n) := (Hg5.out.row.below hb (by omega)).cell (i := 3) (by omega)
          have hBw : Below w.heap.size w wr := hB5'.trans (hb.mono (by have := hB40.size; omega))
          have hst : ∀ x, L.state (cntB f L.n) = x → StateP L L.n f w (.returned (.tuple #[.int .i64 x, .int .i64 0])) wr := fun x hx => ⟨.inl ⟨Hg.out.right, rfl, by rw [hx]⟩, hBw⟩
          have hst2 : ∀ w' x, Below wr.heap.size wr w' → L.state (cntB f L.n) = x → StateP L L.n f w (.returned (.tuple #[.int .i64 x, .int .i64 0])) w' := fun w' x hb' hx => ⟨.inl ⟨Hg.out.right, rfl, by rw [hx]⟩, hBw.trans (hb'.mono hBw.size)⟩
          have hsd : ∀ c, L.state c = if c = 0 then 1 else if L.lost c = true then 3 else 2 := fun c => rfl
          have Hst := Lib.hid hst; clear hst
          have Hst2 := Lib.hid hst2; clear hst2
          have Hsd := Lib.hid hsd; clear hsd
          clear hrow hb
          generalize cntB f L.n = c at *
          by_cases hc0 : c = 0
          · have Hx := Lib.hid (Hst.out 1 (by rw [Hsd.out, if_pos hc0]))
            subst hc0
            go_wp2
            exact bodyPost_ret (v := .tuple #[.int .i64 1, .int .i64 0]) (by simp [results, Try.results37, go_sem]) rfl Hx.out
          · have hcb : ((c : Int) == 0) = false := by rw [beq_eq_false_iff_ne]; omega
            go_wp2_with fail
            refine (State1_any L w.heap.size (w4.heap.size + 1) w4.heap.size g c wr hK0 z0 hP0 hG3).mono ?_
            rintro e w6 ⟨rfl, hb6⟩
            rcases hl : L.lost c with _ | _
            · have Hx := Lib.hid (Hst2.out w6 2 hb6 (by rw [Hsd.out, if_neg hc0, hl]; rfl))
              go_wp2
              exact bodyPost_ret (v := .tuple #[.int .i64 2, .int .i64 0]) (by simp [results, Try.results37, go_sem]) rfl Hx.out
            · have Hx := Lib.hid (Hst2.out w6 3 hb6 (by rw [Hsd.out, if_neg hc0, hl]; rfl))
              go_wp2
              exact bodyPost_ret (v := .tuple #[.int .i64 3, .int .i64 0]) (by simp [results, Try.results37, go_sem]) rfl Hx.out
    · have hne : ((n : Int) != L.n) = true := by rw [bne_iff_ne]; omega
      have hcg := (hg.all ((Below.refl _ w4).alloc (Nat.le_refl _) (.cells #[.pointer (some ⟨g, 0, none⟩)] 65))).cells.2.2.2.1
      have hB5 : Below w4.heap.size w4 (w4.alloc (.cells #[.pointer (some ⟨g, 0, none⟩)] 65)) := (Below.refl _ w4).alloc (Nat.le_refl _) _
      clear hg hR hrow
      go_wp2
      exact bodyPost_ret (v := .tuple #[.int .i64 0, .int .i64 1]) (by simp [results, Try.results37, go_sem]) rfl ⟨.inr ⟨fun h => hnL h.2, rfl⟩, hB40.trans (hB5.mono hB40.size)⟩
  · have HR := Lib.hid hnR; clear hnR
    have hB40 := hB.trans (hB4.mono hB.size)
    have hB5 : Below w4.heap.size w4 (w4.alloc (.cells #[.pointer none] 65)) := (Below.refl _ w4).alloc (Nat.le_refl _) _
    go_wp2
    exact bodyPost_ret (v := .tuple #[.int .i64 0, .int .i64 1]) (by simp [results, Try.results37, go_sem]) rfl ⟨.inr ⟨fun h => HR.out h.1, rfl⟩, hB40.trans (hB5.mono hB40.size)⟩

end Go.Proofs.Ytlbohmfhdchabaa
