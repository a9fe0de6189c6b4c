/- Span: of. -/
import Derived.Test.YtlbohmfhdchabaaSpanB
import Derived.Deep.RegionHeld
import Derived.Deep.Cut
namespace Go.Proofs.Ytlbohmfhdchabaa
open Go.RowKit

/-- The cells of a geometry. -/
def geoV (L : Lay) (sl : Value) (i : Nat) : Value :=
  if i = 0 then .int .i64 L.K else if i = 1 then sl else if i = 2 then .int .i64 L.C else if i = 3 then .int .i64 L.n else if i = 4 then .int .i64 L.m else if i = 5 then .int .i64 L.k else .iface (kindT L.K) (.agg #[])
def geo0 (K : Int) (sl : Value) (C : Int) (n : Nat) (m k : Int) (T : TypeId) (i : Nat) : Value :=
  if i = 0 then .int .i64 K else if i = 1 then sl else if i = 2 then .int .i64 C else if i = 3 then .int .i64 n else if i = 4 then .int .i64 m else if i = 5 then .int .i64 k else .iface T (.agg #[])
/-- A layout as an argument. -/
def layV (L : Lay) (sl : Value) : Value := .agg #[.int .i64 L.K, sl, .int .i64 L.C]

def OfR (L : Lay) (sl : Value) (w : World) (e : Ending) (w' : World) : Prop :=
  Below w.heap.size w w' ∧ ((L.Right ∧ ∃ g, e = .returned (.pointer (some ⟨g, 0, none⟩)) ∧ w.heap.size ≤ g ∧ RowAt w' g 70 7 7 (geoV L sl)) ∨ (¬ L.Right ∧ e = .returned (.pointer none)))

theorem keep3 {w w' : World} {g : Nat} {e : TypeId} {a b c : Value} (h : RowAt w g e 3 3 (st3 a b c)) (hq : Below w.heap.size w w') :
    w'.cell? ⟨g, 0, none⟩ = some a ∧ w'.cell? ⟨g, 1, none⟩ = some b ∧ w'.cell? ⟨g, 2, none⟩ = some c ∧ Below w.heap.size w w' :=
  ⟨(h.all hq).cell (i := 0) (by omega), (h.all hq).cell (i := 1) (by omega), (h.all hq).cell (i := 2) (by omega), hq⟩

theorem below_alloc1 {w w' : World} (h : Below w.heap.size w w') (o : Obj) : Below w.heap.size w (w'.alloc o) := h.alloc h.size o

theorem RowAt.geoSet {w : World} {g : Nat} {e T : TypeId} {K C m k : Int} {sl : Value} {n : Nat} (h : RowAt w g e 7 7 (geo0 K sl C n m k T)) (k' : Int) :
    RowAt (w.setCell ⟨g, 5, none⟩ (.int .i64 k')) g e 7 7 (geo0 K sl C n m k' T) :=
  (h.set 5 _).congr fun i hi => by
    unfold geo0
    rcases i with _ | _ | _ | _ | _ | _ | _ | i <;> first | rfl | omega

theorem keepG {w : World} {g : Nat} {e T : TypeId} {K C m k : Int} {sl : Value} {n : Nat} (h : RowAt w g e 7 7 (geo0 K sl C n m k T)) :
    w.cell? ⟨g, 2, none⟩ = some (.int .i64 C) ∧ w.cell? ⟨g, 4, none⟩ = some (.int .i64 m) ∧ w.cell? ⟨g, 5, none⟩ = some (.int .i64 k) ∧ w.frozen? ⟨g, 5, none⟩ = false :=
  ⟨h.cell (i := 2) (by omega), h.cell (i := 4) (by omega), h.cell (i := 5) (by omega), h.frozen 5⟩

theorem kinds_p (w : World) : Calls Try.prog 51 #[] w fun e w' => ∃ b, e = .returned (.map (some b)) ∧ w'.heap[b]? = some kindsObj ∧ Below w.heap.size w w' :=
  (kinds_any w).mono fun e w' h => by
    obtain ⟨rfl, rfl⟩ := h
    exact ⟨_, rfl, heap_alloc_new _ _, (Below.refl _ _).alloc (Nat.le_refl _) _⟩

set_option maxHeartbeats 1000000 in
theorem of_kind (K : Int) (n : Nat) (M : Nat → Int) (C : Int) (sl : Value) (w : World) (hs : IArg w sl n M) (hK : ¬(1 ≤ K ∧ K ≤ 5)) :
    Calls Try.prog 42 #[layV ⟨K, n, M, C⟩ sl] w (OfR ⟨K, n, M, C⟩ sl w) := by
  have hnR : ¬ (Lay.mk K n M C).Right := fun h => hK h.kind
  obtain ⟨a, cap, rfl⟩ := hs.slice
  have hnR' := Lib.hid hnR; clear hnR
  have hs' := Lib.hid hs; clear hs
  unfold layV
  go_enter Try.func42, Try.ntmps42
  go_wp2_with fail
  have r0 := row3 w (.int .i64 K) (.slice a n cap) (.int .i64 C) 24
  have hB : Below w.heap.size w (w.alloc (.cells #[.int .i64 K, .slice a n cap, .int .i64 C] 24)) := (Below.refl _ w).alloc (Nat.le_refl _) _
  generalize hW : w.alloc (.cells #[.int .i64 K, .slice a n cap, .int .i64 C] 24) = W at *
  clear hW
  have c0 := r0.cell (i := 0) (by omega)
  simp only [st3, if_pos] at c0
  have hd : Below W.heap.size W W.drew := (Below.refl _ W).drew
  have hm := fun (w : World) (b : Nat) (h : w.heap[b]? = some kindsObj) => lookup_miss h K hK
  have Hm := Lib.hid hm; clear hm
  go_region_held (fun w' => w'.cell? ⟨w.heap.size, 0, none⟩ = some (.int .i64 K) ∧ Below W.heap.size W w') (exact ⟨(r0.all (by assumption)).cell (i := 0) (by omega), by assumption⟩) (first | (go_at_call 51; refine (kinds_p _).mono ?_; rintro e w4 ⟨b, rfl, hb4, hB4⟩; have hl := Hm.out _ b hb4; replace hd := hd.trans hB4))
  have r4 := r0.all hd
  have c1 := r4.cell (i := 2) (by omega)
  have c2 := r4.cell (i := 1) (by omega)
  simp only [st3] at c1 c2
  go_wp2
  go_ret
  exact ⟨hB.trans (hd.mono hB.size), .inr ⟨hnR'.out, rfl⟩⟩

set_option maxHeartbeats 2000000 in
theorem of_chunk (K : Int) (n : Nat) (M : Nat → Int) (C : Int) (sl : Value) (w : World) (hs : IArg w sl n M) (hK : 1 ≤ K ∧ K ≤ 5) (hC : ¬(1 ≤ C ∧ C ≤ 64)) :
    Calls Try.prog 42 #[layV ⟨K, n, M, C⟩ sl] w (OfR ⟨K, n, M, C⟩ sl w) := by
  have hnR : ¬ (Lay.mk K n M C).Right := fun h => hC h.chunk
  obtain ⟨a, cap, rfl⟩ := hs.slice
  have hnR' := Lib.hid hnR; clear hnR
  have hs' := Lib.hid hs; clear hs
  have hC' : C < 1 ∨ 1 ≤ C ∧ 64 < C := by omega
  clear hC
  unfold layV
  go_enter Try.func42, Try.ntmps42
  go_wp2_with fail
  have r0 := row3 w (.int .i64 K) (.slice a n cap) (.int .i64 C) 24
  have hB : Below w.heap.size w (w.alloc (.cells #[.int .i64 K, .slice a n cap, .int .i64 C] 24)) := (Below.refl _ w).alloc (Nat.le_refl _) _
  generalize hW : w.alloc (.cells #[.int .i64 K, .slice a n cap, .int .i64 C] 24) = W at *
  clear hW
  have c0 := r0.cell (i := 0) (by omega)
  simp only [st3, if_pos] at c0
  have hd : Below W.heap.size W W.drew := (Below.refl _ W).drew
  have hm := fun (w : World) (b : Nat) (h : w.heap[b]? = some kindsObj) => lookup_hit h K hK
  have Hm := Lib.hid hm; clear hm
  go_region_held (fun w' => w'.cell? ⟨w.heap.size, 0, none⟩ = some (.int .i64 K) ∧ Below W.heap.size W w') (exact ⟨(r0.all (by assumption)).cell (i := 0) (by omega), by assumption⟩) (first | (go_at_call 51; refine (kinds_p _).mono ?_; rintro e w4 ⟨b, rfl, hb4, hB4⟩; have hl := Hm.out _ b hb4; replace hd := hd.trans hB4))
  have r4 := r0.all hd
  have c1 := r4.cell (i := 2) (by omega)
  have c2 := r4.cell (i := 1) (by omega)
  simp only [st3] at c1 c2
  rcases hC' with hC1 | ⟨hC1, hC2⟩
  all_goals
    go_wp2
    go_ret
    exact ⟨hB.trans (hd.mono hB.size), .inr ⟨hnR'.out, rfl⟩⟩

end Go.Proofs.Ytlbohmfhdchabaa
