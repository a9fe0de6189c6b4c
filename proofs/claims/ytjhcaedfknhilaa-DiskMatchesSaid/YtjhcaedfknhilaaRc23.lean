/- The reference: Spoil. -/
import Derived.Test.YtjhcaedfknhilaaRc22
namespace Go.Proofs.Ytjhcaedfknhilaa
set_option linter.unusedVariables false
set_option linter.unusedSimpArgs false
open Go.RowKit
attribute [local go_sem ↓] Go.wp_at_zero Go.wp_at_succ
attribute [-go_sem] loadCellsFrom storeCells
attribute [local go_sem] storeCells_one

def lstF (l : List Nat) (k : Nat) : Int := (l.getD k 0 : Nat)
theorem own_snoc {w : World} {B n : Nat} {v : Value} {l : List Nat} {x : Nat} (hn : n = l.length) (h : Own w B 3 v (n + 1) (fun k => if k < n then intsV (lstF l) k else (fun _ => Value.int .i64 (x : Nat)) (k - n))) : Own w B 3 v (n + 1) (intsV (lstF (l ++ [x]))) := by
  subst hn
  refine h.congr fun k hk => ?_
  unfold intsV lstF
  by_cases h1 : k < l.length
  · rw [if_pos h1, List.getD_eq_getElem?_getD, List.getD_eq_getElem?_getD, List.getElem?_append_left h1]
  · rw [if_neg h1]
    obtain rfl : k = l.length := by omega
    rw [List.getD_eq_getElem?_getD, List.getElem?_append_right (by omega)]
    simp

/-- Whether it is in, behind i elements; and the list so far. -/
def spPut (L : List Nat) (a i : Nat) : Bool := (L.take i).any fun x => decide (a ≤ x)
def spOut (L : List Nat) (a i : Nat) : List Nat := (L.take i).filter (fun x => decide (x < a)) ++ (if spPut L a i then [a] else []) ++ (L.take i).filter (fun x => decide (a < x))
theorem spPut_next {L : List Nat} {a i : Nat} (h : i < L.length) : spPut L a (i + 1) = (spPut L a i || decide (a ≤ L[i])) := by
  unfold spPut
  rw [List.take_succ_eq_append_getElem h, List.any_append]
  simp
theorem sp_none {L : List Nat} {a i : Nat} (h : spPut L a i = false) : (L.take i).filter (fun x => decide (a < x)) = [] := by
  rw [List.filter_eq_nil_iff]
  intro x hx h9
  unfold spPut at h
  rw [List.any_eq_false] at h
  have := h x hx
  simp at this h9
  omega
theorem sp_gt {L : List Nat} (hs : L.Pairwise (· < ·)) {a i : Nat} (h : i < L.length) (hp : spPut L a i = true) : a < L[i] := by
  unfold spPut at hp
  rw [List.any_eq_true] at hp
  obtain ⟨x, hx, h9⟩ := hp
  obtain ⟨j, hj, rfl⟩ := List.getElem_of_mem hx
  rw [List.length_take] at hj
  rw [List.getElem_take] at h9
  have := List.pairwise_iff_getElem.1 hs j i (by omega) h (by omega)
  simp at h9
  omega
theorem spOut_next {L : List Nat} {a i : Nat} (h : i < L.length) : spOut L a (i + 1) = (L.take i).filter (fun x => decide (x < a)) ++ (if L[i] < a then [L[i]] else []) ++ (if spPut L a (i + 1) then [a] else []) ++ ((L.take i).filter (fun x => decide (a < x)) ++ (if a < L[i] then [L[i]] else [])) := by
  unfold spOut
  rw [List.take_succ_eq_append_getElem h, List.filter_append, List.filter_append]
  congr 2
  · congr 1
    by_cases h1 : L[i] < a <;> simp [h1]
  · congr 1
    by_cases h1 : a < L[i] <;> simp [h1]
/-- It is in: the next one is put behind. -/
theorem sp_a {L : List Nat} (hs : L.Pairwise (· < ·)) {a i : Nat} (h : i < L.length) (hp : spPut L a i = true) : spOut L a (i + 1) = spOut L a i ++ [L[i]] ∧ spPut L a (i + 1) = true := by
  have hg := sp_gt hs h hp
  have hp2 : spPut L a (i + 1) = true := by rw [spPut_next h, hp]; rfl
  refine ⟨?_, hp2⟩
  rw [spOut_next h, if_neg (by omega), if_pos hg, hp2]
  unfold spOut
  rw [hp]
  simp
theorem sp_b {L : List Nat} {a i : Nat} (h : i < L.length) (hp : spPut L a i = false) (hx : a ≤ L[i]) : spOut L a (i + 1) = (spOut L a i ++ [a]) ++ (if a < L[i] then [L[i]] else []) ∧ spPut L a (i + 1) = true := by
  have hp2 : spPut L a (i + 1) = true := by rw [spPut_next h, hp, decide_eq_true hx]; rfl
  refine ⟨?_, hp2⟩
  rw [spOut_next h, if_neg (by omega), hp2, sp_none hp]
  unfold spOut
  rw [hp, sp_none hp]
  simp
theorem sp_c {L : List Nat} {a i : Nat} (h : i < L.length) (hp : spPut L a i = false) (hx : L[i] < a) : spOut L a (i + 1) = spOut L a i ++ [L[i]] ∧ spPut L a (i + 1) = false := by
  have hp2 : spPut L a (i + 1) = false := by rw [spPut_next h, hp, decide_eq_false (by omega)]; rfl
  refine ⟨?_, hp2⟩
  rw [spOut_next h, if_pos hx, hp2, sp_none hp]
  unfold spOut
  rw [hp, sp_none hp]
  simp
  omega
theorem sorted_ext : ∀ {l1 l2 : List Nat}, l1.Pairwise (· < ·) → l2.Pairwise (· < ·) → (∀ x, x ∈ l1 ↔ x ∈ l2) → l1 = l2
  | [], [], _, _, _ => rfl
  | [], y :: l2, _, _, h => by have := (h y).2 (List.mem_cons_self ..); cases this
  | x :: l1, [], _, _, h => by have := (h x).1 (List.mem_cons_self ..); cases this
  | x :: l1, y :: l2, h1, h2, h => by
    rw [List.pairwise_cons] at h1 h2
    have hxy : x = y := by
      have a1 := (h x).1 (List.mem_cons_self ..)
      have a2 := (h y).2 (List.mem_cons_self ..)
      rcases List.mem_cons.1 a1 with a1 | a1
      · exact a1
      · rcases List.mem_cons.1 a2 with a2 | a2
        · exact a2.symm
        · have := h2.1 x a1
          have := h1.1 y a2
          omega
    subst hxy
    rw [sorted_ext h1.2 h2.2 fun z => ⟨fun hz => by
      rcases List.mem_cons.1 ((h z).1 (List.mem_cons_of_mem _ hz)) with a1 | a1
      · have := h1.1 z hz; omega
      · exact a1, fun hz => by
      rcases List.mem_cons.1 ((h z).2 (List.mem_cons_of_mem _ hz)) with a1 | a1
      · have := h2.1 z hz; omega
      · exact a1⟩]
theorem sp_fin (D : Dsk) {a : Nat} (ha : a < D.n) : (spOut (badL D D.n) a (badL D D.n).length ++ if spPut (badL D D.n) a (badL D D.n).length then [] else [a]) = badL (D.spoil a) (D.spoil a).n := by
  have hs := badL_sorted D D.n
  generalize hL : badL D D.n = L at *
  have hmem : ∀ x, x ∈ L ↔ x < D.n ∧ D.bad x = true := fun x => by
    rw [← hL]
    unfold badL
    rw [List.mem_filter, List.mem_range]
  have h1 : (spOut L a L.length ++ if spPut L a L.length then [] else [a]) = L.filter (fun x => decide (x < a)) ++ a :: L.filter (fun x => decide (a < x)) := by
    unfold spOut
    rcases hp : spPut L a L.length with _ | _
    · have := sp_none hp
      rw [List.take_length] at this ⊢
      rw [this]
      simp
    · rw [List.take_length]
      simp
  rw [h1]
  refine sorted_ext ?_ (badL_sorted _ _) fun x => ?_
  · rw [List.pairwise_append]
    refine ⟨hs.filter _, ?_, fun x hx y hy => ?_⟩
    · rw [List.pairwise_cons]
      exact ⟨fun y hy => by have := (List.mem_filter.1 hy).2; simpa using this, hs.filter _⟩
    · have h2 := (List.mem_filter.1 hx).2
      simp at h2
      rcases List.mem_cons.1 hy with rfl | hy
      · exact h2
      · have h3 := (List.mem_filter.1 hy).2
        simp at h3
        omega
  · unfold badL
    rw [List.mem_append, List.mem_cons, List.mem_filter, List.mem_filter, List.mem_filter, List.mem_range, hmem]
    show _ ↔ x < D.n ∧ (decide (x = a) || D.bad x) = true
    simp only [Bool.or_eq_true, decide_eq_true_eq]
    constructor
    · rintro (⟨⟨h2, h3⟩, h4⟩ | rfl | ⟨⟨h2, h3⟩, h4⟩)
      · exact ⟨h2, .inr h3⟩
      · exact ⟨ha, .inl rfl⟩
      · exact ⟨h2, .inr h3⟩
    · rintro ⟨h2, (h3 | h3)⟩
      · exact .inr (.inl h3)
      · by_cases h4 : x = a
        · exact .inr (.inl h4)
        · rcases Nat.lt_or_ge x a with h5 | h5
          · exact .inl ⟨⟨h2, h3⟩, h5⟩
          · exact .inr (.inr ⟨⟨h2, h3⟩, by omega⟩)
theorem spOut_le (L : List Nat) (a i : Nat) : (spOut L a i).length ≤ 2 * i + 1 := by
  unfold spOut
  rw [List.length_append, List.length_append]
  have h1 := List.length_filter_le (fun x => decide (x < a)) (L.take i)
  have h2 := List.length_filter_le (fun x => decide (a < x)) (L.take i)
  have h3 : (L.take i).length ≤ i := by simp; omega
  split <;> simp <;> omega

theorem spoil_bad {B B' : Nat} {w : World} {v : Value} {D : Dsk} {l : List Nat} {a : Nat} (h : Own w B' 3 v l.length (intsV (lstF l))) (hl : l = badL (D.spoil a) (D.spoil a).n) (hn : D.n ≤ 4096) : NArg B w v (D.spoil a).dev.m (D.spoil a).dev.bad := by
  subst hl
  refine narg_own h fun i => ?_
  have := badF_range (D.spoil a) (D.spoil a).n i hn
  show -9223372036854775808 ≤ badF (D.spoil a) (D.spoil a).n i ∧ badF (D.spoil a) (D.spoil a).n i ≤ 9223372036854775807
  omega
theorem spoil_at {B : Nat} {w : World} {dv qv bv v : Value} {D : Dsk} {a : Nat} (h : DevAt B w dv qv bv D.dev) (hb : NArg B w v (D.spoil a).dev.m (D.spoil a).dev.bad) : DevAt B w dv qv v (D.spoil a).dev := ⟨h.data, h.queue, hb, h.left⟩
def RefSpoilP (B : Nat) (D : Dsk) (a : Int) (w : World) (e : Ending) (w' : World) : Prop :=
  (¬ (0 ≤ a ∧ a < D.n) ∧ RefOut B D 1 w e w') ∨ (0 ≤ a ∧ a < D.n ∧ RefOut B (D.spoil a.toNat) 0 w e w')

set_option maxRecDepth 100000 in
set_option maxHeartbeats 8000000 in
theorem RefSpoil_any {B : Nat} {dv qv bv : Value} {D : Dsk} (a : Int) (w : World) (h : DevAt B w dv qv bv D.dev) (hok : D.Ok) (hB : B ≤ w.heap.size) :
    Calls Try.prog 55 #[devV dv qv bv D.dev, .int .i64 a] w (RefSpoilP B D a w) := by
  have hsz := hok.size
  clear hok
  obtain ⟨dx, dc, rfl, -⟩ := h.data.slice
  obtain ⟨qx, qc, rfl, hqm⟩ := h.queue.slice
  obtain ⟨bx, bc, rfl, -⟩ := h.bad.slice
  have hI := refI_new w (.slice dx D.dev.n dc) (.slice qx D.dev.q qc) (.slice bx D.dev.m bc) (.bool D.dev.dead) (.bool D.dev.armed) (.int .i64 D.dev.left)
  have HD := Lib.hid (h.all hI.below)
  have HI := Lib.hid hI
  clear h hI hqm
  unfold devV
  go_enter Try.func55, Try.ntmps55
  go_upto_region 1 with fail
  generalize (w.alloc (.cells #[.slice dx D.dev.n dc, .slice qx D.dev.q qc, .slice bx D.dev.m bc, .bool D.dev.dead, .bool D.dev.armed, .int .i64 D.dev.left] 31)).alloc (.cells #[.slice none 0 0, .slice none 0 0, .slice none 0 0, .bool false, .bool false, .int .i64 0] 31) = W at *
  obtain ⟨N, hN⟩ : ∃ N, D.n = N := ⟨_, rfl⟩
  have HN := Lib.hid hN
  have hq : D.dev.n / 64 = N := by show D.n * 64 / 64 = N; omega
  have Hq := Lib.hid hq
  rw [hN] at hsz
  clear hq hN
  by_cases h0 : a < 0
  · have g1 : decide (a < 0) = true := decide_eq_true h0
    have Hno := Lib.hid (show ¬ (0 ≤ a ∧ a < D.n) by omega)
    clear h0
    have HZ := Lib.hid (HI.out.fin hB (x0 := .slice dx D.dev.n dc) (x1 := .slice qx D.dev.q qc) (x2 := .slice bx D.dev.m bc) (x3 := .bool D.dev.dead) (x4 := .bool D.dev.armed) (x5 := .int .i64 D.dev.left) (six_one rfl rfl rfl rfl rfl rfl))
    have hs := HZ.out.store
    have hload := HI.out.load
    have hld := HZ.out.load
    go_wp2_with fail
    have hfin : RefOut B (D) 1 w (.returned (.tuple #[.agg #[.slice dx D.dev.n dc, .slice qx D.dev.q qc, .slice bx D.dev.m bc, .bool D.dev.dead, .bool D.dev.armed, .int .i64 D.dev.left], .int .i64 1])) _ := ⟨_, _, _, rfl, HD.out.keepD HZ.out.keeps, HZ.out.below⟩
    refine bodyPost_ret (v := .tuple #[.agg #[.slice dx D.dev.n dc, .slice qx D.dev.q qc, .slice bx D.dev.m bc, .bool D.dev.dead, .bool D.dev.armed, .int .i64 D.dev.left], .int .i64 1]) (by simp [results, Try.results55, asAddr, hld]) rfl ?_
    exact (.inl ⟨Hno.out, hfin⟩)
  have g1 : decide (a < 0) = false := decide_eq_false h0
  obtain ⟨A, rfl⟩ : ∃ A : Nat, a = A := ⟨a.toNat, by omega⟩
  have hload := HI.out.load
  go_wp2_with fail
  refine (Sectors_any W HD.out).mono ?_
  rintro e w2 ⟨rfl, hb⟩
  rw [Hq.out]
  have HI2 := Lib.hid (HI.out.all hb)
  have HD2 := Lib.hid (HD.out.all hb)
  clear hb hload HI HD
  by_cases h1 : A < N
  rotate_left 1
  · have g2 : decide ((A : Int) ≥ N) = true := decide_eq_true (by omega)
    have g3 : N ≤ A := by omega
    have Hno := Lib.hid (show ¬ ((0 : Int) ≤ A ∧ (A : Int) < D.n) by rw [HN.out]; omega)
    clear h1
    have HZ := Lib.hid (HI2.out.fin hB (x0 := .slice dx D.dev.n dc) (x1 := .slice qx D.dev.q qc) (x2 := .slice bx D.dev.m bc) (x3 := .bool D.dev.dead) (x4 := .bool D.dev.armed) (x5 := .int .i64 D.dev.left) (six_one rfl rfl rfl rfl rfl rfl))
    have hs := HZ.out.store
    have hload := HI2.out.load
    have hld := HZ.out.load
    go_wp2_with fail
    have hfin : RefOut B (D) 1 w (.returned (.tuple #[.agg #[.slice dx D.dev.n dc, .slice qx D.dev.q qc, .slice bx D.dev.m bc, .bool D.dev.dead, .bool D.dev.armed, .int .i64 D.dev.left], .int .i64 1])) _ := ⟨_, _, _, rfl, HD2.out.keepD HZ.out.keeps, HZ.out.below⟩
    refine bodyPost_ret (v := .tuple #[.agg #[.slice dx D.dev.n dc, .slice qx D.dev.q qc, .slice bx D.dev.m bc, .bool D.dev.dead, .bool D.dev.armed, .int .i64 D.dev.left], .int .i64 1]) (by simp [results, Try.results55, asAddr, hld]) rfl ?_
    exact (.inl ⟨Hno.out, hfin⟩)
  have g2 : decide ((A : Int) ≥ N) = false := decide_eq_false (by omega)
  have g3 : ¬ N ≤ A := by omega
  have Hs := Lib.hid (badL_sorted D D.n)
  have Hfin := Lib.hid (sp_fin D (a := A) (by rw [HN.out]; exact h1))
  have hLl : (badL D D.n).length ≤ N := by have := badL_le D D.n; rw [HN.out] at this ⊢; exact this
  have Hel := Lib.hid (show ∀ i (hi : i < (badL D D.n).length), D.dev.bad i = ((badL D D.n)[i] : Nat) from badF_get D D.n)
  have Hm := Lib.hid (show D.dev.m = (badL D D.n).length from rfl)
  generalize badL D D.n = L at *
  obtain ⟨m, hm⟩ : ∃ m, L.length = m := ⟨_, rfl⟩
  have Hm2 := Lib.hid hm
  rw [hm] at hLl
  clear hm
  obtain ⟨W0, hW0⟩ : ∃ x, x = w2 := ⟨_, rfl⟩
  subst hW0
  go_wp2_with fail
  go_loopw [6, 7, 8] (fun s6 s7 s8 wr => ∃ i : Nat, i ≤ m ∧ s8 = .int .i64 i ∧ s7 = .bool (spPut L A i) ∧ ∃ x c, s6 = .slice x (spOut L A i).length c ∧ Own wr W0.heap.size 3 (.slice x (spOut L A i).length c) (spOut L A i).length (intsV (lstF (spOut L A i))) ∧ Below W0.heap.size W0 wr) (fun _ _ s8 _ => m - (intOf s8).toNat)
  case atStart => exact ⟨0, by omega, by go_num, rfl, none, 0, rfl, Own.nil _ _ _ _, Below.refl _ _⟩
  case round =>
    obtain ⟨i, hi, rfl, rfl, x, c, rfl, hown, hb⟩ := hrel
    have HOw := Lib.hid hown
    have HBr := Lib.hid hb
    have Hle := Lib.hid (show (spOut L A i).length ≤ 8193 by have := spOut_le L A i; omega)
    clear hown hb
    obtain ⟨-, -, a2, -⟩ := cells6 (HI2.out.all HBr.out).box
    have a2' : wr.cell? ⟨w.heap.size, 2, none⟩ = some (.slice bx m bc) := by rw [← Hm2.out, ← Hm.out]; exact a2
    clear a2
    by_cases hlt : i < m
    · have hdlt : decide ((i : Int) < m) = true := decide_eq_true (by omega)
      have hil : i < L.length := by have := Hm2.out; omega
      obtain ⟨b3, o3, c3, e3, hc3⟩ := (HD2.out.all HBr.out).bad.elem (i := i) (by rw [Hm.out]; exact hil)
      cases e3
      rw [Hel.out i hil] at hc3
      have Ha := Lib.hid (sp_a Hs.out hil (a := A))
      have Hb := Lib.hid (sp_b hil (a := A))
      have Hc := Lib.hid (sp_c hil (a := A))
      have Hg := Lib.hid (sp_gt Hs.out hil (a := A))
      have Hex := Lib.hid (Hel.out i hil)
      generalize L[i] = x3 at *
      clear hil
      rcases bool_cases (spPut L A i) with hp | hp
      · by_cases hx : A ≤ x3
        · have hge : decide ((x3 : Int) ≥ A) = true := decide_eq_true (by omega)
          have hge2 : A ≤ x3 := hx
          have HB3 := Lib.hid (Hb.out hp hx)
          clear Ha Hb Hc Hg
          go_wp2_with (with_reducible refine stopB .append ?_)
          refine Hold.go ?_
          refine wpList_append_o rfl _ _ 29 3 _ _ rfl Try.underlying29 info_int rfl W0.heap.size (.slice x (spOut L A i).length c) ((spOut L A i).length) (intsV (lstF (spOut L A i))) rfl (HOw.out.alloc _) wr.heap.size 0 1 1 (fun _ => .int .i64 (A : Nat)) rfl (RowAt.new wr #[.int .i64 (A : Nat)] 3 _ 1 (by simp) (one_cell rfl)).reads (fun _ _ => rfl) (by have := Hle.out; omega) (by decide) (by have := HBr.out.size; simp; omega) ?_
          intro v9 w9 hown hgr _ _
          obtain ⟨xw9, cw9, rfl⟩ := Own.slice hown
          have hb9 : Below W0.heap.size W0 w9 := ((HBr.out.alloc (by have := HBr.out.size; omega) _).grown hgr (by have := HBr.out.size; simp; omega) (fun k hk => (HOw.out.isCells k hk).1))
          have HOw9 := Lib.hid (own_snoc rfl hown)
          have HBw9 := Lib.hid hb9
          clear hown hgr hb9
          obtain ⟨-, -, a4, -⟩ := cells6 (HI2.out.all HBw9.out).box
          have a4' : w9.cell? ⟨w.heap.size, 2, none⟩ = some (.slice (some ⟨b3, o3, none⟩) m bc) := by rw [← Hm2.out, ← Hm.out]; exact a4
          obtain ⟨b5, o5, c5, e5, hc5⟩ := (HD2.out.all HBw9.out).bad.elem (i := i) (by rw [Hm.out, Hm2.out]; exact hlt)
          cases e5
          rw [Hex.out] at hc5
          clear a4
          by_cases hxa : A < x3
          · have g5 : ((x3 : Int) != (A : Int)) = true := by rw [bne_iff_ne]; omega
            have hnn := HB3.out
            rw [if_pos hxa] at hnn
            have HN := Lib.hid hnn
            clear hnn hxa hx hge2
            go_wp2_with (with_reducible refine stopB .append ?_)
            refine Hold.go ?_
            refine wpList_append_o rfl _ _ 29 3 _ _ rfl Try.underlying29 info_int rfl W0.heap.size (.slice xw9 ((spOut L A i).length + 1) cw9) ((spOut L A i).length + 1) (intsV (lstF (spOut L A i ++ [A]))) rfl (HOw9.out.alloc _) w9.heap.size 0 1 1 (fun _ => .int .i64 (x3 : Nat)) rfl (RowAt.new w9 #[.int .i64 (x3 : Nat)] 3 _ 1 (by simp) (one_cell rfl)).reads (fun _ _ => rfl) (by have := Hle.out; omega) (by decide) (by have := HBw9.out.size; simp; omega) ?_
            intro v9 w8 hown hgr _ _
            obtain ⟨xw8, cw8, rfl⟩ := Own.slice hown
            have hb9 : Below W0.heap.size W0 w8 := ((HBw9.out.alloc (by have := HBw9.out.size; omega) _).grown hgr (by have := HBw9.out.size; simp; omega) (fun k hk => (HOw9.out.isCells k hk).1))
            have HOw8 := Lib.hid (own_snoc (by rw [List.length_append]; rfl) hown)
            have HBw8 := Lib.hid hb9
            clear hown hgr hb9
            go_wp2
            go_roundw
            case rel => exact ⟨i + 1, by omega, by go_num, by rw [HN.out.2], xw8, cw8, by rw [HN.out.1, List.length_append, List.length_append]; rfl, by rw [HN.out.1, List.length_append, List.length_append]; exact HOw8.out, HBw8.out⟩
            case measure => simp [intOf]; omega
          · have g5 : ((x3 : Int) != (A : Int)) = false := by rw [bne_eq_false_iff_eq]; omega
            have hnn := HB3.out
            rw [if_neg hxa, List.append_nil] at hnn
            have HN := Lib.hid hnn
            clear hnn hxa hx hge2
            go_wp2
            go_roundw
            case rel => exact ⟨i + 1, by omega, by go_num, by rw [HN.out.2], xw9, cw9, by rw [HN.out.1, List.length_append]; rfl, by rw [HN.out.1, List.length_append]; exact HOw9.out, HBw9.out⟩
            case measure => simp [intOf]; omega
        · have hge : decide ((x3 : Int) ≥ A) = false := decide_eq_false (by omega)
          have hge2 : ¬ A ≤ x3 := hx
          have g5 : ((x3 : Int) != (A : Int)) = true := by rw [bne_iff_ne]; omega
          have HN := Lib.hid (Hc.out hp (by omega))
          clear Ha Hb Hc Hg
          go_wp2_with (with_reducible refine stopB .append ?_)
          refine Hold.go ?_
          refine wpList_append_o rfl _ _ 29 3 _ _ rfl Try.underlying29 info_int rfl W0.heap.size (.slice x (spOut L A i).length c) ((spOut L A i).length) (intsV (lstF (spOut L A i))) rfl (HOw.out.alloc _) wr.heap.size 0 1 1 (fun _ => .int .i64 (x3 : Nat)) rfl (RowAt.new wr #[.int .i64 (x3 : Nat)] 3 _ 1 (by simp) (one_cell rfl)).reads (fun _ _ => rfl) (by have := Hle.out; omega) (by decide) (by have := HBr.out.size; simp; omega) ?_
          intro v9 w9 hown hgr _ _
          obtain ⟨xw9, cw9, rfl⟩ := Own.slice hown
          have hb9 : Below W0.heap.size W0 w9 := ((HBr.out.alloc (by have := HBr.out.size; omega) _).grown hgr (by have := HBr.out.size; simp; omega) (fun k hk => (HOw.out.isCells k hk).1))
          have HOw9 := Lib.hid (own_snoc rfl hown)
          have HBw9 := Lib.hid hb9
          clear hown hgr hb9
          go_wp2
          go_roundw
          case rel => exact ⟨i + 1, by omega, by go_num, by rw [HN.out.2], xw9, cw9, by rw [HN.out.1, List.length_append]; rfl, by rw [HN.out.1, List.length_append]; exact HOw9.out, HBw9.out⟩
          case measure => simp [intOf]; omega
      · have HN := Lib.hid (Ha.out hp)
        have hgt := Hg.out hp
        have g5 : ((x3 : Int) != (A : Int)) = true := by rw [bne_iff_ne]; omega
        clear Ha Hb Hc Hg hgt
        go_wp2_with (with_reducible refine stopB .append ?_)
        refine Hold.go ?_
        refine wpList_append_o rfl _ _ 29 3 _ _ rfl Try.underlying29 info_int rfl W0.heap.size (.slice x (spOut L A i).length c) ((spOut L A i).length) (intsV (lstF (spOut L A i))) rfl (HOw.out.alloc _) wr.heap.size 0 1 1 (fun _ => .int .i64 (x3 : Nat)) rfl (RowAt.new wr #[.int .i64 (x3 : Nat)] 3 _ 1 (by simp) (one_cell rfl)).reads (fun _ _ => rfl) (by have := Hle.out; omega) (by decide) (by have := HBr.out.size; simp; omega) ?_
        intro v9 w9 hown hgr _ _
        obtain ⟨xw9, cw9, rfl⟩ := Own.slice hown
        have hb9 : Below W0.heap.size W0 w9 := ((HBr.out.alloc (by have := HBr.out.size; omega) _).grown hgr (by have := HBr.out.size; simp; omega) (fun k hk => (HOw.out.isCells k hk).1))
        have HOw9 := Lib.hid (own_snoc rfl hown)
        have HBw9 := Lib.hid hb9
        clear hown hgr hb9
        go_wp2
        go_roundw
        case rel => exact ⟨i + 1, by omega, by go_num, by rw [HN.out.2], xw9, cw9, by rw [HN.out.1, List.length_append]; rfl, by rw [HN.out.1, List.length_append]; exact HOw9.out, HBw9.out⟩
        case measure => simp [intOf]; omega
    · obtain rfl : m = i := by omega
      have hdlt : decide ((m : Int) < m) = false := decide_eq_false (by omega)
      have hfin2 := Hfin.out
      rw [Hm2.out] at hfin2
      have Hf := Lib.hid hfin2
      clear hfin2
      rcases bool_cases (spPut L A m) with hp | hp
      · have hlf := Hf.out
        rw [hp] at hlf
        have Hl := Lib.hid hlf
        clear hlf
        go_wp2_with (with_reducible refine stopB .append ?_)
        refine Hold.go ?_
        refine wpList_append_o rfl _ _ 29 3 _ _ rfl Try.underlying29 info_int rfl W0.heap.size (.slice x (spOut L A m).length c) ((spOut L A m).length) (intsV (lstF (spOut L A m))) rfl (HOw.out.alloc _) wr.heap.size 0 1 1 (fun _ => .int .i64 (A : Nat)) rfl (RowAt.new wr #[.int .i64 (A : Nat)] 3 _ 1 (by simp) (one_cell rfl)).reads (fun _ _ => rfl) (by have := Hle.out; omega) (by decide) (by have := HBr.out.size; simp; omega) ?_
        intro v9 w9 hown hgr _ _
        obtain ⟨xw9, cw9, rfl⟩ := Own.slice hown
        have hb9 : Below W0.heap.size W0 w9 := ((HBr.out.alloc (by have := HBr.out.size; omega) _).grown hgr (by have := HBr.out.size; simp; omega) (fun k hk => (HOw.out.isCells k hk).1))
        have HOw9 := Lib.hid (own_snoc rfl hown)
        have HBw9 := Lib.hid hb9
        clear hown hgr hb9
        have HIx := Lib.hid (HI2.out.all HBw9.out)
        have HDx := Lib.hid (HD2.out.all HBw9.out)
        have hs1 := (HIx.out).set hB 2 (.slice xw9 ((spOut L A m).length + 1) cw9) (a' := .slice dx D.dev.n dc) (b' := .slice qx D.dev.q qc) (c' := .slice xw9 ((spOut L A m).length + 1) cw9) (d' := .bool D.dev.dead) (e' := .bool D.dev.armed) (f' := .int .i64 D.dev.left) (fun k hk => by
          obtain rfl | rfl | rfl | rfl | rfl | rfl : k = 0 ∨ k = 1 ∨ k = 2 ∨ k = 3 ∨ k = 4 ∨ k = 5 := by omega
          all_goals rfl)
        have f1 := (HIx.out).box.frozen 2
        have c1 := (HIx.out).box.cell (i := 2) (by omega)
        have HI2b := Lib.hid (hs1.1)
        have HK2 := Lib.hid (hs1.2)
        clear hs1
        go_upto_region 16 with fail
        clear f1 c1
        generalize (w9.setCell ⟨w.heap.size, 2, none⟩ (.slice xw9 ((spOut L A m).length + 1) cw9)) = W2 at *
        have HZ := Lib.hid (HI2b.out.fin hB (x0 := .slice dx D.dev.n dc) (x1 := .slice qx D.dev.q qc) (x2 := .slice xw9 ((spOut L A m).length + 1) cw9) (x3 := .bool D.dev.dead) (x4 := .bool D.dev.armed) (x5 := .int .i64 D.dev.left) (six_one rfl rfl rfl rfl rfl rfl))
        have hs := HZ.out.store
        have hload := HI2b.out.load
        have hld := HZ.out.load
        have hbd : NArg B w9 (.slice xw9 ((spOut L A m).length + 1) cw9) (D.spoil A).dev.m (D.spoil A).dev.bad := spoil_bad (l := spOut L A m ++ [A]) (by rw [List.length_append]; exact HOw9.out) Hl.out (by rw [HN.out]; exact hsz.2)
        have HS := Lib.hid (spoil_at HDx.out hbd)
        clear hbd
        go_wp2_with fail
        have HD6 := Lib.hid (HS.out.keepD (HK2.out.trans HZ.out.keeps))
        have hfin : RefOut B (D.spoil A) 0 w (.returned (.tuple #[.agg #[.slice dx D.dev.n dc, .slice qx D.dev.q qc, .slice xw9 ((spOut L A m).length + 1) cw9, .bool D.dev.dead, .bool D.dev.armed, .int .i64 D.dev.left], .int .i64 0])) _ := ⟨_, _, _, rfl, HD6.out, HZ.out.below⟩
        refine bodyPost_ret (v := .tuple #[.agg #[.slice dx D.dev.n dc, .slice qx D.dev.q qc, .slice xw9 ((spOut L A m).length + 1) cw9, .bool D.dev.dead, .bool D.dev.armed, .int .i64 D.dev.left], .int .i64 0]) (by simp [results, Try.results55, asAddr, hld]) rfl ?_
        exact (.inr ⟨by omega, by rw [HN.out]; omega, hfin⟩)
      · have hlf := Hf.out
        rw [hp] at hlf
        rw [if_pos rfl, List.append_nil] at hlf
        have Hl := Lib.hid hlf
        clear hlf
        have HIx := Lib.hid (HI2.out.all HBr.out)
        have HDx := Lib.hid (HD2.out.all HBr.out)
        have hs1 := (HIx.out).set hB 2 (.slice x ((spOut L A m).length) c) (a' := .slice dx D.dev.n dc) (b' := .slice qx D.dev.q qc) (c' := .slice x ((spOut L A m).length) c) (d' := .bool D.dev.dead) (e' := .bool D.dev.armed) (f' := .int .i64 D.dev.left) (fun k hk => by
          obtain rfl | rfl | rfl | rfl | rfl | rfl : k = 0 ∨ k = 1 ∨ k = 2 ∨ k = 3 ∨ k = 4 ∨ k = 5 := by omega
          all_goals rfl)
        have f1 := (HIx.out).box.frozen 2
        have c1 := (HIx.out).box.cell (i := 2) (by omega)
        have HI2b := Lib.hid (hs1.1)
        have HK2 := Lib.hid (hs1.2)
        clear hs1
        go_upto_region 16 with fail
        clear f1 c1
        generalize (wr.setCell ⟨w.heap.size, 2, none⟩ (.slice x ((spOut L A m).length) c)) = W2 at *
        have HZ := Lib.hid (HI2b.out.fin hB (x0 := .slice dx D.dev.n dc) (x1 := .slice qx D.dev.q qc) (x2 := .slice x ((spOut L A m).length) c) (x3 := .bool D.dev.dead) (x4 := .bool D.dev.armed) (x5 := .int .i64 D.dev.left) (six_one rfl rfl rfl rfl rfl rfl))
        have hs := HZ.out.store
        have hload := HI2b.out.load
        have hld := HZ.out.load
        have hbd : NArg B wr (.slice x ((spOut L A m).length) c) (D.spoil A).dev.m (D.spoil A).dev.bad := spoil_bad (HOw.out) Hl.out (by rw [HN.out]; exact hsz.2)
        have HS := Lib.hid (spoil_at HDx.out hbd)
        clear hbd
        go_wp2_with fail
        have HD6 := Lib.hid (HS.out.keepD (HK2.out.trans HZ.out.keeps))
        have hfin : RefOut B (D.spoil A) 0 w (.returned (.tuple #[.agg #[.slice dx D.dev.n dc, .slice qx D.dev.q qc, .slice x ((spOut L A m).length) c, .bool D.dev.dead, .bool D.dev.armed, .int .i64 D.dev.left], .int .i64 0])) _ := ⟨_, _, _, rfl, HD6.out, HZ.out.below⟩
        refine bodyPost_ret (v := .tuple #[.agg #[.slice dx D.dev.n dc, .slice qx D.dev.q qc, .slice x ((spOut L A m).length) c, .bool D.dev.dead, .bool D.dev.armed, .int .i64 D.dev.left], .int .i64 0]) (by simp [results, Try.results55, asAddr, hld]) rfl ?_
        exact (.inr ⟨by omega, by rw [HN.out]; omega, hfin⟩)

end Go.Proofs.Ytjhcaedfknhilaa
