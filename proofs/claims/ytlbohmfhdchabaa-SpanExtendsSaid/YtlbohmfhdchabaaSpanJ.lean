/- Span: Page, Regions, Region, Row. -/
import Derived.Test.YtlbohmfhdchabaaSpanI
namespace Go.Proofs.Ytlbohmfhdchabaa
open Go.RowKit

def PageP (L : Lay) (s : Int × Int) (w : World) (e : Ending) (w' : World) : Prop :=
  ((L.Right ∧ L.has s = true ∧ e = .returned (.tuple #[.int .i64 (L.page s).1, .int .i64 (L.page s).2, .int .i64 0])) ∨
   (L.Right ∧ L.has s = false ∧ e = .returned (.tuple #[.int .i64 0, .int .i64 0, .int .i64 24])) ∨ (¬ L.Right ∧ e = .returned (.tuple #[.int .i64 0, .int .i64 0, .int .i64 1]))) ∧ Below w.heap.size w w'

/-- What a region reads that loads a spot and asks a geometry for its kind. -/
theorem keep_page {w w' : World} {g h : Nat} {L : Lay} {sl : Value} {a b : Int} (hg : Geo w g L sl) (hr : RowAt w h 45 2 2 (st2 (.int .i64 a) (.int .i64 b))) (hq : Below w.heap.size w w') :
    w'.cell? ⟨g, 6, none⟩ = some (.iface (kindT L.K) (.agg #[])) ∧ w'.cell? ⟨h, 0, none⟩ = some (.int .i64 a) ∧ w'.cell? ⟨h, 1, none⟩ = some (.int .i64 b) ∧ Below w.heap.size w w' :=
  ⟨(hg.all hq).cells.2.2.2.2.2.2, (hr.all hq).cell (i := 0) (by omega), (hr.all hq).cell (i := 1) (by omega), hq⟩

theorem spot_setup {w : World} {L : Lay} {sl : Value} (a b : Int) (hs : IArg w sl L.n L.M) :
    IArg ((w.alloc (.cells #[.int .i64 L.K, sl, .int .i64 L.C] 24)).alloc (.cells #[.int .i64 a, .int .i64 b] 45)) sl L.n L.M ∧
    RowAt ((w.alloc (.cells #[.int .i64 L.K, sl, .int .i64 L.C] 24)).alloc (.cells #[.int .i64 a, .int .i64 b] 45)) w.heap.size 24 3 3 (st3 (.int .i64 L.K) sl (.int .i64 L.C)) ∧
    RowAt ((w.alloc (.cells #[.int .i64 L.K, sl, .int .i64 L.C] 24)).alloc (.cells #[.int .i64 a, .int .i64 b] 45)) (w.heap.size + 1) 45 2 2 (st2 (.int .i64 a) (.int .i64 b)) ∧
    Below w.heap.size w ((w.alloc (.cells #[.int .i64 L.K, sl, .int .i64 L.C] 24)).alloc (.cells #[.int .i64 a, .int .i64 b] 45)) := by
  obtain ⟨h1, h2, h3⟩ := lay_setup hs
  have hr := row2 (w.alloc (.cells #[.int .i64 L.K, sl, .int .i64 L.C] 24)) (.int .i64 a) (.int .i64 b) 45
  rw [World.size_alloc] at hr
  exact ⟨h1.all ((Below.refl _ _).alloc (Nat.le_refl _) _), h2.alloc _, hr, h3.alloc (by simp) _⟩

theorem row2_cells {w : World} {g : Nat} {e : TypeId} {a b : Value} (h : RowAt w g e 2 2 (st2 a b)) : w.cell? ⟨g, 0, none⟩ = some a ∧ w.cell? ⟨g, 1, none⟩ = some b :=
  ⟨h.cell (i := 0) (by omega), h.cell (i := 1) (by omega)⟩

set_option maxHeartbeats 2000000 in
theorem Page_any (L : Lay) (sl : Value) (s : Int × Int) (w : World) (hs : IArg w sl L.n L.M) : Calls Try.prog 24 #[layV L sl, spotA s] w (PageP L s w) := by
  obtain ⟨x, y⟩ := s
  obtain ⟨hW, hr, hr2, hB⟩ := spot_setup x y hs
  obtain ⟨c0, c1, c2⟩ := row3_cells hr
  obtain ⟨a, cap, rfl⟩ := hs.slice
  have HW := Lib.hid hW; clear hW hs
  unfold layV spotA
  go_enter Try.func24, Try.ntmps24
  go_wp2_with fail
  generalize (w.alloc (.cells #[.int .i64 L.K, .slice a L.n cap, .int .i64 L.C] 24)).alloc (.cells #[.int .i64 x, .int .i64 y] 45) = W at *
  refine (of_any L _ W HW.out).mono ?_
  rintro e w4 ⟨hB4, (⟨hR, g, rfl, hge, hrow⟩ | ⟨hnR, rfl⟩)⟩
  · have hg : Geo w4 g L (.slice a L.n cap) := ⟨hR, hrow, HW.out.all hB4⟩
    have Hg := Lib.hid hg
    have hme := method_page hR.kind
    have hen := enter_page hR.kind
    have r4 := hr2.all hB4
    obtain ⟨b0, b1⟩ := row2_cells r4
    clear hg hR hrow
    go_wp2_with fail
    refine (has_any L _ g (x, y) w4 Hg.out).mono ?_
    rintro e w5 ⟨rfl, hB5⟩
    have hg5 := Hg.out.all hB5
    have r5 := r4.all hB5
    have hB' := hB.trans ((hB4.trans (hB5.mono hB4.size)).mono hB.size)
    rcases h : L.has (x, y) with _ | _
    · have Hp := Lib.hid h; clear h
      have HR := Lib.hid hg5.right; clear hg5
      go_wp2
      exact bodyPost_ret (v := .tuple #[.int .i64 0, .int .i64 0, .int .i64 24]) (by simp [results, Try.results24, go_sem]) rfl ⟨.inr (.inl ⟨HR.out, Hp.out, rfl⟩), hB'⟩
    · have Hp := Lib.hid h; clear h
      go_upto_region 6 with fail
      have hd : Below w5.heap.size w5 w5.drew := (Below.refl _ w5).drew
      have Hg5 := Lib.hid hg5; clear hg5
      go_region_held (fun w' => w'.cell? ⟨g, 6, none⟩ = some (.iface (kindT L.K) (.agg #[])) ∧ w'.cell? ⟨w.heap.size + 1, 0, none⟩ = some (.int .i64 x) ∧ w'.cell? ⟨w.heap.size + 1, 1, none⟩ = some (.int .i64 y) ∧ Below w5.heap.size w5 w') (exact keep_page Hg5.out r5 (by assumption)) (first | (refine (page_any L _ g (x, y) _ (Hg5.out.all hd) Hp.out).mono ?_; rintro e w6 ⟨rfl, hB6⟩; replace hd := hd.trans (hB6.mono hd.size)))
      go_wp2
      exact bodyPost_ret (v := .tuple #[.int .i64 (L.page (x, y)).1, .int .i64 (L.page (x, y)).2, .int .i64 0]) (by simp [results, Try.results24, go_sem]) rfl ⟨.inl ⟨Hg5.out.right, Hp.out, rfl⟩, hB'.trans (hd.mono hB'.size)⟩
  · have HR := Lib.hid hnR; clear hnR
    go_wp2
    exact bodyPost_ret (v := .tuple #[.int .i64 0, .int .i64 0, .int .i64 1]) (by simp [results, Try.results24, go_sem]) rfl ⟨.inr (.inr ⟨HR.out, rfl⟩), hB.trans (hB4.mono hB.size)⟩

/-- How many regions there are. -/
def Lay.regn (L : Lay) : Int := (L.regs + L.C - 1) / L.C

set_option maxHeartbeats 2000000 in
theorem Regions_any (L : Lay) (sl : Value) (w : World) (hs : IArg w sl L.n L.M) :
    Calls Try.prog 27 #[layV L sl] w fun e w' => ((L.Right ∧ e = .returned (.tuple #[.int .i64 L.regn, .int .i64 0])) ∨ (¬ L.Right ∧ e = .returned (.tuple #[.int .i64 0, .int .i64 1]))) ∧ Below w.heap.size w w' := by
  obtain ⟨hW, hr, hB⟩ := lay_setup hs
  obtain ⟨c0, c1, c2⟩ := row3_cells hr
  obtain ⟨a, cap, rfl⟩ := hs.slice
  have HW := Lib.hid hW; clear hW hs
  unfold layV
  go_enter Try.func27, Try.ntmps27
  go_wp2_with fail
  generalize w.alloc (.cells #[.int .i64 L.K, .slice a L.n cap, .int .i64 L.C] 24) = W at *
  refine (of_any L _ W HW.out).mono ?_
  rintro e w4 ⟨hB4, (⟨hR, g, rfl, hge, hrow⟩ | ⟨hnR, rfl⟩)⟩
  · have hg : Geo w4 g L (.slice a L.n cap) := ⟨hR, hrow, HW.out.all hB4⟩
    have Hg := Lib.hid hg
    have hrg := hR.regs
    have hC := hR.chunk
    clear hg hR hrow
    go_upto_region 4 with fail
    have hd : Below w4.heap.size w4 w4.drew := (Below.refl _ w4).drew
    go_region_held (fun w' => w'.cell? ⟨g, 2, none⟩ = some (.int .i64 L.C) ∧ Below w4.heap.size w4 w') (exact ⟨(Hg.out.all (by assumption)).cells.2.2.1, by assumption⟩) (first | (go_at_call 46; refine (regions_any L _ g _ (Hg.out.all hd)).mono ?_; rintro e w6 ⟨rfl, rfl⟩))
    have hq : IntKind.i64.wrap (Int.tdiv (L.regs + L.C - 1) L.C) = L.regn := IntWalk.i64_quo _ _ (by omega)
    go_wp2
    refine bodyPost_ret (v := .tuple #[.int .i64 L.regn, .int .i64 0]) (by simp [results, Try.results27, go_sem, Lay.regn]) rfl ⟨.inl ⟨Hg.out.right, rfl⟩, hB.trans ((hB4.trans (hd.mono hB4.size)).mono hB.size)⟩
  · have HR := Lib.hid hnR; clear hnR
    go_wp2
    refine bodyPost_ret (v := .tuple #[.int .i64 0, .int .i64 1]) (by simp [results, Try.results27, go_sem]) rfl ⟨.inr ⟨HR.out, rfl⟩, hB.trans (hB4.mono hB.size)⟩

end Go.Proofs.Ytlbohmfhdchabaa
