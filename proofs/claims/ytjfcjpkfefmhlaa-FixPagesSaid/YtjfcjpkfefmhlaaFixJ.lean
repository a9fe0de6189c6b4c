/- Marks, Torn, Newer, blended and Blend. -/
import Derived.Test.YtjfcjpkfefmhlaaFixI
namespace Go.Proofs.Ytjfcjpkfefmhlaa
open Go.RowKit

def listV (L : List Int) (i : Nat) : Value := .int .i64 (L.getD i 0)
theorem listV_snoc (L : List Int) (x : Int) (i : Nat) (hi : i < L.length + 1) : (if i < L.length then listV L i else .int .i64 x) = listV (L ++ [x]) i := by
  unfold listV
  by_cases h : i < L.length
  · rw [if_pos h]; simp [List.getD_eq_getElem?_getD, List.getElem?_append_left h]
  · obtain rfl : i = L.length := by omega
    rw [if_neg h]; simp [List.getD_eq_getElem?_getD]

set_option maxHeartbeats 1000000 in
theorem marks_len (a : Option Addr) (n cap : Nat) (hn : n ≠ 512) (w : World) :
    Calls Try.prog 28 #[.slice a n cap] w (GuardBad w 1) := by
  have hb : ((n : Int) == 512) = false := by rw [beq_eq_false_iff_ne]; omega
  go_enter Try.func28, Try.ntmps28
  go_wp2_with (go_at_call 37; refine (right_one a n cap w).mono ?_; rintro e w' ⟨rfl, rfl⟩)
  go_ret2
  exact ⟨rfl, (Below.refl _ w).alloc (Nat.le_refl _) _⟩

def MarksOk (w : World) (f : Nat → Int) (e : Ending) (w' : World) : Prop :=
  ∃ g cap, e = .returned (.tuple #[.slice (some ⟨g, 0, none⟩) 8 cap, .int .i64 0]) ∧ w.heap.size ≤ g ∧ RowAt w' g 3 cap 8 (intsV (markI f)) ∧ cap ≤ maxLen ∧ Below w.heap.size w w'

set_option maxHeartbeats 1000000 in
theorem marks_ok (b off cap : Nat) (hcap : 512 ≤ cap) (hm : cap ≤ maxLen) (f : Nat → Int) (hf : ∀ i, i < 512 → 0 ≤ f i ∧ f i < 256) (w : World) (hc : Cells w b off 512 (bytesV f)) :
    Calls Try.prog 28 #[.slice (some ⟨b, off, none⟩) 512 cap] w (MarksOk w f) := by
  have hmk := marks_any b off cap hcap hm f hf (w.alloc (.cells #[.slice (some ⟨b, off, none⟩) 512 cap] 22)) (hc.alloc _)
  have Hmk := Lib.hid hmk; clear hmk
  clear hf hc
  go_enter Try.func28, Try.ntmps28
  go_wp2_with (first | (go_at_call 37; refine (right_one _ 512 cap w).mono ?_; rintro e w' ⟨rfl, rfl⟩) | (go_at_call 38; refine Hmk.out.mono ?_; rintro e w' ⟨g, cp, rfl, hg, hrow, hmx, hbel⟩))
  go_ret2
  simp only [World.size_alloc] at hg hbel
  exact ⟨g, cp, rfl, by omega, hrow, hmx, ((Below.refl _ w).alloc (Nat.le_refl _) _).trans (hbel.mono (by omega))⟩

def tornP (f : Nat → Int) (s : Nat) : Bool := markI f s != markI f 0 || markI f 0 == 0
def tornL (f : Nat → Int) (k : Nat) : List Int := ((List.range k).filter (tornP f)).map (fun (i : Nat) => (i : Int))
theorem tornL_succ (f : Nat → Int) (k : Nat) : tornL f (k + 1) = if tornP f k then tornL f k ++ [(k : Int)] else tornL f k := by
  unfold tornL
  rw [List.range_succ, List.filter_append, List.map_append]
  cases h : tornP f k <;> simp [List.filter, h]
theorem tornL_len (f : Nat → Int) (k : Nat) : (tornL f k).length ≤ k := by
  unfold tornL
  rw [List.length_map]
  exact Nat.le_trans (List.length_filter_le _ _) (by simp)

theorem torn_len (a : Option Addr) (n cap : Nat) (hn : n ≠ 512) (w : World) :
    Calls Try.prog 25 #[.slice a n cap] w (GuardBad w 1) := by
  have hb : ((n : Int) == 512) = false := by rw [beq_eq_false_iff_ne]; omega
  go_enter Try.func25, Try.ntmps25
  go_wp2_with (go_at_call 37; refine (right_one a n cap w).mono ?_; rintro e w' ⟨rfl, rfl⟩)
  go_ret2
  exact ⟨rfl, (Below.refl _ w).alloc (Nat.le_refl _) _⟩

def TornOk (w : World) (f : Nat → Int) (e : Ending) (w' : World) : Prop :=
  ∃ v, e = .returned (.tuple #[v, .int .i64 0]) ∧ Own w' w.heap.size 3 v (tornL f 8).length (listV (tornL f 8)) ∧ Below w.heap.size w w'

/-- What holds between two rounds of Torn. -/
def TornI (w : World) (g cap : Nat) (f : Nat → Int) (k : Nat) (v : Value) (wr : World) : Prop :=
  RowAt wr g 3 cap 8 (intsV (markI f)) ∧ Own wr (g + 1) 3 v (tornL f k).length (listV (tornL f k)) ∧ Below w.heap.size w wr ∧ (∃ n c a, v = .slice a n c)

theorem torn_step {w wr w3 : World} {g cap : Nat} {f : Nat → Int} {k : Nat} {v v' : Value} (h : TornI w g cap f k v wr) (hg : w.heap.size ≤ g) (hp : tornP f k = true)
    (hown' : Own w3 (g + 1) 3 v' ((tornL f k).length + 1) (fun i => if i < (tornL f k).length then listV (tornL f k) i else .int .i64 k)) (hgr : (wr.alloc (.cells #[.int .i64 k] 3)).grownBy w3 v.ownBlock) :
    TornI w g cap f (k + 1) v' w3 := by
  obtain ⟨hr, ho, hb, _⟩ := h
  have hs := tornL_succ f k
  rw [if_pos hp] at hs
  have hlt := hr.lt
  refine ⟨(hr.alloc _).grown hgr (ho.ne (by omega)), ?_, (hb.alloc (by have := hb.size; omega) _).grown hgr (by simp; have := hb.size; omega) (fun k e => by have := (ho.isCells k e).1; omega), ?_⟩
  · rw [hs, List.length_append]
    exact hown'.congr fun i hi => listV_snoc _ _ _ hi
  · obtain ⟨g', c', rfl, _⟩ := hown'.row (by omega)
    exact ⟨_, _, _, rfl⟩

set_option maxHeartbeats 2000000 in
theorem torn_ok (b off cap : Nat) (hcap : 512 ≤ cap) (hm : cap ≤ maxLen) (f : Nat → Int) (hf : ∀ i, i < 512 → 0 ≤ f i ∧ f i < 256) (w : World) (hc : Cells w b off 512 (bytesV f)) :
    Calls Try.prog 25 #[.slice (some ⟨b, off, none⟩) 512 cap] w (TornOk w f) := by
  have hmk := marks_any b off cap hcap hm f hf (w.alloc (.cells #[.slice (some ⟨b, off, none⟩) 512 cap] 22)) (hc.alloc _)
  have Hmk := Lib.hid hmk; clear hmk
  clear hf hc
  go_enter Try.func25, Try.ntmps25
  go_wp2_with (first | (go_at_call 37; refine (right_one _ 512 cap w).mono ?_; rintro e w' ⟨rfl, rfl⟩) | (go_at_call 38; refine Hmk.out.mono ?_; rintro e w' ⟨g, cp, rfl, hg, hrow, hmx, hbel⟩))
  simp only [World.size_alloc] at hg hbel
  have hb1 : Below w.heap.size w w' := ((Below.refl _ w).alloc (Nat.le_refl _) _).trans (hbel.mono (by omega))
  clear hbel
  go_loopw [5, 16] (fun v t wr => ∃ k : Nat, k ≤ 8 ∧ t = .int .i64 k ∧ TornI w g cp f k v wr) (fun _ t _ => 8 - (intOf t).toNat)
  case atStart => exact ⟨0, by omega, rfl, hrow, Own.nil _ _ _ _, hb1, _, _, _, rfl⟩
  case round =>
    obtain ⟨k, hk, rfl, hr, ho, hbl, n0, c0, a0, rfl⟩ := hrel
    by_cases hlt : k < 8
    · have m0 := hr.cell (i := 0) (by omega)
      have mk := hr.cell (i := k) hlt
      unfold intsV at m0 mk
      have HR := Lib.hid hr; clear hr
      rcases hp : tornP f k with _ | _
      · have hsucc := tornL_succ f k
        rw [if_neg (by rw [hp]; simp)] at hsucc
        have Hs := Lib.hid hsucc; clear hsucc
        unfold tornP at hp
        rw [Bool.or_eq_false_iff] at hp
        obtain ⟨p1, p2⟩ := hp
        go_wp2
        go_roundw
        case rel => exact ⟨k + 1, by omega, by go_num, HR.out, by rw [Hs.out]; exact ho, hbl, _, _, _, rfl⟩
        case measure => simp [intOf]; omega
      · have hti : TornI w g cp f k (.slice a0 n0 c0) wr := ⟨HR.out, ho, hbl, _, _, _, rfl⟩
        have Hti := Lib.hid hti; clear hti
        have Hp := Lib.hid hp
        have hl := tornL_len f k
        have hgs : g < wr.heap.size := HR.out.lt
        unfold tornP at hp
        have Ho := Lib.hid ho; clear ho
        rcases p1 : (markI f k != markI f 0) with _ | _
        · have p2 : (markI f 0 == 0) = true := by rw [p1] at hp; simpa using hp
          clear hp
          go_wp2_with (with_reducible refine stopB .append ?_)
          refine Hold.go ?_
          refine wpList_append_o rfl _ _ 24 3 _ _ rfl Try.underlying24 info_int rfl (g + 1) _ (tornL f k).length (listV (tornL f k)) rfl (Ho.out.alloc _) wr.heap.size 0 1 1 (fun _ => .int .i64 k) rfl (RowAt.new wr #[.int .i64 k] 3 _ 1 (by simp) (one_cell rfl)).reads (fun _ _ => rfl) (by omega) (by decide) (by simp; omega) ?_
          intro v' w3 hown' hgr _ _
          have hst := torn_step Hti.out (by omega) Hp.out hown' hgr
          have Hst := Lib.hid hst; clear hst hown' hgr
          go_wp2
          go_roundw
          case rel => exact ⟨k + 1, by omega, by go_num, Hst.out⟩
          case measure => simp [intOf]; omega
        · clear hp
          go_wp2_with (with_reducible refine stopB .append ?_)
          refine Hold.go ?_
          refine wpList_append_o rfl _ _ 24 3 _ _ rfl Try.underlying24 info_int rfl (g + 1) _ (tornL f k).length (listV (tornL f k)) rfl (Ho.out.alloc _) wr.heap.size 0 1 1 (fun _ => .int .i64 k) rfl (RowAt.new wr #[.int .i64 k] 3 _ 1 (by simp) (one_cell rfl)).reads (fun _ _ => rfl) (by omega) (by decide) (by simp; omega) ?_
          intro v' w3 hown' hgr _ _
          have hst := torn_step Hti.out (by omega) Hp.out hown' hgr
          have Hst := Lib.hid hst; clear hst hown' hgr
          go_wp2
          go_roundw
          case rel => exact ⟨k + 1, by omega, by go_num, Hst.out⟩
          case measure => simp [intOf]; omega
    · obtain rfl : k = 8 := by omega
      go_wp2
      go_ret2
      exact ⟨_, rfl, ho.mono (by omega), hbl⟩

end Go.Proofs.Ytjfcjpkfefmhlaa
