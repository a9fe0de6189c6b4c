/- Span: Peers. -/
import Derived.Test.YtlbohmfhdchabaaSpanN
namespace Go.Proofs.Ytlbohmfhdchabaa
open Go.RowKit
attribute [local go_sem] Oper.semAt_some

/-- The spots from which a spot can be rebuilt. -/
def Lay.peersN (L : Lay) (s : Int × Int) : Nat := if (L.page s).2 = 4 ∨ ¬ (L.K = 4 ∨ L.K = 5) then 0 else L.n - 1
def peersF (s : Int × Int) (i : Nat) : Int × Int := (if (i : Int) < s.1 then (i : Int) else (i : Int) + 1, s.2)

def PeersP (L : Lay) (s : Int × Int) (w : World) (e : Ending) (w' : World) : Prop :=
  ((L.Right ∧ L.has s = true ∧ ∃ v, e = .returned (.tuple #[v, .int .i64 0]) ∧ Spots w' w.heap.size v (L.peersN s) (peersF s)) ∨
   (L.Right ∧ L.has s = false ∧ e = .returned (.tuple #[.slice none 0 0, .int .i64 24])) ∨ (¬ L.Right ∧ e = .returned (.tuple #[.slice none 0 0, .int .i64 1]))) ∧ Below w.heap.size w w'

/-- A region that ends by itself: nothing is asked of its panics. -/
theorem wp_ends {P : Program} {c : Code} {K : Act → World → Prop} {Q : Exit → Act → World → Prop} {a : Act} {w : World} (h : c.wp P (Exit.then K (fun _ _ _ => False)) a w) : c.wp P (Exit.then K Q) a w :=
  wp_mono h (fun e a w h => by
    cases e with
    | normal => exact h
    | _ => exact h.elim)

theorem seqA_own' {B g n : Nat} {a b : Int} {H D : Nat} {w : World} {F : Nat → Int × Int} {c : Nat → Nat} {s : Nat → Int × Int} {q : Nat} (hH : H ≤ w.heap.size) : OwnFrom D (fun k W => SeqA B g n a b H D w F c (s k) q k W) :=
  fun k W W' row h hg hr => seqA_own hH k W W' row h hg hr

theorem nthSpot_one (y : Int) (k : Nat) : nthSpot y 1 k = ((k : Int), y) := by
  have := nthSpot_at y (m := 1) (i := k) (j := 0) (by omega)
  simpa using this

/-- How many of the spots 0 .. k - 1 lie on another member than x. -/
def peersC (x : Int) (k : Nat) : Nat := if k ≤ x.toNat then k else k - 1

set_option maxHeartbeats 8000000 in
theorem Peers_any (L : Lay) (sl : Value) (s : Int × Int) (w : World) (hs : IArg w sl L.n L.M) : Calls Try.prog 33 #[layV L sl, spotA s] w (PeersP L s w) := by
  obtain ⟨x, y⟩ := s
  obtain ⟨hW, hr, hr2, hB⟩ := spot_setup x y hs
  obtain ⟨c0, c1, c2⟩ := row3_cells hr
  obtain ⟨a, cap, rfl⟩ := hs.slice
  have HW := Lib.hid hW; clear hW hs
  unfold layV spotA
  refine (callsIn_wide (n := 3)).1 ?_
  refine callsIn_of_wp_marks Try.func33 rfl trivial ?_ rfl
  simp only [Try.ntmps33, List.size_toArray, List.length_cons, List.length_nil, Nat.reduceAdd, Nat.reduceSub, Array.replicate_succ, Array.replicate_zero, List.push_toArray, List.append_toArray, List.nil_append, List.cons_append]
  gi_wp2_with fail
  generalize (w.alloc (.cells #[.int .i64 L.K, .slice a L.n cap, .int .i64 L.C] 24)).alloc (.cells #[.int .i64 x, .int .i64 y] 45) = W at *
  refine ⟨trivial, (callsW _ (of_any L _ W HW.out)).mono ?_⟩
  rintro e w4 ⟨hB4, (⟨hR, g, rfl, hge, hrow⟩ | ⟨hnR, rfl⟩)⟩
  · have hg : Geo w4 g L (.slice a L.n cap) := ⟨hR, hrow, HW.out.all hB4⟩
    have Hg := Lib.hid hg
    have hme := method_page hR.kind
    have hen := enter_page hR.kind
    have r4 := hr2.all hB4
    obtain ⟨b0, b1⟩ := row2_cells r4
    clear hg hR hrow
    gi_wp2_with fail
    refine ⟨trivial, (callsW _ (has_any L _ g (x, y) w4 Hg.out)).mono ?_⟩
    rintro e w5 ⟨rfl, hB5⟩
    have hg5 := Hg.out.all hB5
    have r5 := r4.all hB5
    have r50 := (hr.all hB4).all hB5
    have hB' := hB.trans ((hB4.trans (hB5.mono hB4.size)).mono hB.size)
    rcases h : L.has (x, y) with _ | _
    · have Hp := Lib.hid h; clear h
      have HR := Lib.hid hg5.right; clear hg5
      gi_wp2
      exact ⟨.tuple #[.slice none 0 0, .int .i64 24], by simp [results, Try.results33, go_sem], .inr (.inl ⟨HR.out, Hp.out, rfl⟩), hB'⟩
    · have Hp := Lib.hid h; clear h
      have hH : w5.heap.size < w5.heap.size + 1 := by omega
      gi_wp2_with fail
      have hg6 := hg5.all ((Below.refl _ w5).alloc (Nat.le_refl _) (.cells #[.slice none 0 0] 31))
      have r6 := r5.alloc (.cells #[.slice none 0 0] 31)
      have r60 := r50.alloc (.cells #[.slice none 0 0] 31)
      have r7 := RowAt.new w5 #[.slice none 0 0] 31 (fun _ => .slice none 0 0) 1 (by simp) (one_cell rfl)
      have hB6 := hB'.alloc hB'.size (.cells #[.slice none 0 0] 31)
      have hs6 : (w5.alloc (.cells #[.slice none 0 0] 31)).heap.size = w5.heap.size + 1 := by simp
      have hg5l := hg5.row.lt
      have hrx0 := r5
      clear hg5 r5 r50 b0 b1
      have hB56 : Below w5.heap.size w5 (w5.alloc (.cells #[.slice none 0 0] 31)) := (Below.refl _ w5).alloc (Nat.le_refl _) _
      have hrx : RowAt w5 (w.heap.size + 1) 45 2 2 (st2 (.int .i64 x) (.int .i64 y)) := hrx0
      generalize w5.alloc (.cells #[.slice none 0 0] 31) = w6 at *
      obtain ⟨b0, b1⟩ := row2_cells r6
      obtain ⟨-, -, -, -, -, -, c6⟩ := hg6.cells
      have Hg6 := Lib.hid hg6; clear hg6
      have hd : Below w6.heap.size w6 w6.drew := (Below.refl _ w6).drew
      refine wpIn_wide.2 (wp_ends ?_)
      go_region_held (fun w' => w'.cell? ⟨g, 6, none⟩ = some (.iface (kindT L.K) (.agg #[])) ∧ w'.cell? ⟨w.heap.size + 1, 0, none⟩ = some (.int .i64 x) ∧ w'.cell? ⟨w.heap.size + 1, 1, none⟩ = some (.int .i64 y) ∧ Below w6.heap.size w6 w') (exact keep_page Hg6.out r6 (by assumption)) (first | (refine (page_any L _ g (x, y) _ (Hg6.out.all hd) Hp.out).mono ?_; rintro e w7 ⟨rfl, hB7⟩; replace hd := hd.trans (hB7.mono hd.size)))
      have hg7 := Hg6.out.all hd
      have hB7' := hB6.trans (hd.mono hB6.size)
      obtain ⟨k0, -, -⟩ := row3_cells (r60.all hd)
      obtain ⟨s0, s1⟩ := row2_cells (r6.all hd)
      have r77 := r7.all hd
      have hxy : (0 ≤ x ∧ x < L.n ∧ 0 ≤ y ∧ y < L.M x.toNat) ∧ y ≤ 4096 := hg7.hasM Hp.out
      have hn := hg7.right.nle
      have hd7 := hd.size
      clear hme hen b0 b1 c6 c0 c1 c2 hB7
      by_cases hrole : (L.page (x, y)).2 = 4
      · have hpn : L.peersN (x, y) = 0 := by unfold Lay.peersN; rw [if_pos (.inl hrole)]
        have Hpn := Lib.hid hpn; clear hpn
        have hr4 : ((L.page (x, y)).2 == 4) = true := by rw [beq_iff_eq]; exact hrole
        clear hrole
        have Hg7 := Lib.hid hg7; clear hg7
        show Exit.then _ (bodyPostM Fence.wide 3 Try.prog Try.f33 (PeersP L (x, y) w)) Exit.normal _ _
        gi_wp2
        exact ⟨.tuple #[.slice none 0 0, .int .i64 0], by simp [results, Try.results33, go_sem], .inl ⟨Hg7.out.right, Hp.out, _, rfl, by rw [Hpn.out]; exact Spots.nil _ _ _⟩, hB7'⟩
      have hr4 : ((L.page (x, y)).2 == 4) = false := by rw [beq_eq_false_iff_ne]; exact hrole
      by_cases hkk : L.K = 4 ∨ L.K = 5
      rotate_left 1
      · have hpn : L.peersN (x, y) = 0 := by unfold Lay.peersN; rw [if_pos (.inr hkk)]
        have Hpn := Lib.hid hpn; clear hpn
        have hk4 : (L.K != 4) = true := by rw [bne_iff_ne]; exact fun h => hkk (.inl h)
        have hk5 : (L.K != 5) = true := by rw [bne_iff_ne]; exact fun h => hkk (.inr h)
        clear hrole hkk
        have Hg7 := Lib.hid hg7; clear hg7
        show Exit.then _ (bodyPostM Fence.wide 3 Try.prog Try.f33 (PeersP L (x, y) w)) Exit.normal _ _
        gi_wp2
        exact ⟨.tuple #[.slice none 0 0, .int .i64 0], by simp [results, Try.results33, go_sem], .inl ⟨Hg7.out.right, Hp.out, _, rfl, by rw [Hpn.out]; exact Spots.nil _ _ _⟩, hB7'⟩
      have hpn : L.peersN (x, y) = L.n - 1 := by unfold Lay.peersN; rw [if_neg (fun h => h.elim hrole (fun h => h hkk))]
      have Hpn := Lib.hid hpn; clear hpn
      obtain ⟨b4, hk4, hk5⟩ : ∃ b4 : Bool, (L.K != 4) = b4 ∧ (b4 && (L.K != 5)) = false := by
        rcases hkk with h | h
        · exact ⟨false, by rw [h]; rfl, rfl⟩
        · exact ⟨true, by rw [h]; rfl, by rw [h]; rfl⟩
      clear hkk hrole
      have c73 := hg7.cells.2.2.2.1
      have Hg7 := Lib.hid hg7; clear hg7
      have hyy : IntKind.i64.wrap (y + 1) = y + 1 := IntWalk.i64_in _ (by omega)
      show Exit.then _ (bodyPostM Fence.wide 3 Try.prog Try.f33 (PeersP L (x, y) w)) Exit.normal _ _
      cases b4
      all_goals
        simp only [Bool.true_and, Bool.false_and] at hk5
        gi_wp2_with fail
        refine ⟨trivial, (callsW _ (spots_p g L.n y (y + 1) w7 c73)).mono ?_⟩
        rintro e w8 ⟨rfl, hrd, hB8, hsz8, -⟩
        have hI0 : SeqI w7.heap.size g L.n y (y + 1) w5.heap.size w8.heap.size w5 (peersF (x, y)) (peersC x) 0 w8 :=
          ⟨hrd, ⟨_, r77.all hB8, Spots.nil _ _ _⟩, (hB56.trans (hd.mono hB56.size)).trans (hB8.mono (hB56.trans (hd.mono hB56.size)).size), Nat.le_refl _, ⟨by omega, by omega, by omega⟩, ⟨by omega, by omega, by omega, by omega⟩⟩
        have hlx := hrx.lt
        have hq8 : w8.heap.size ≤ w7.heap.size + 3 ∧ w7.heap.size + 3 ≤ w8.heap.size := by omega
        clear hsz8
        have hit := spots1_iter 2 w7.heap.size g L.n y (y + 1) 1 (by omega) hn.2 (by omega)
        have Hit := Lib.hid hit; clear hit
        have HI0 := Lib.hid hI0; clear hI0 hrd
        have Hrx := Lib.hid hrx; clear hrx hrx0
        clear hk4 hk5 hyy k0 s0 s1 c73
        gi_wp2_with fail
        refine wpIn_rangeB rfl (fun h => by simp [Fence.wide] at h) (gf := 56) (lb := #[.pointer (some ⟨w7.heap.size, 0, none⟩), .pointer (some ⟨w7.heap.size + 1, 0, none⟩), .pointer (some ⟨w7.heap.size + 2, 0, none⟩)]) rfl trivial (enters_of Try.func56 (by kernel_rfl) rfl)
          (en := fun k => spotA (nthSpot y 1 k)) Hit.out (SeqI w7.heap.size g L.n y (y + 1) w5.heap.size w8.heap.size w5 (peersF (x, y)) (peersC x)) (fun _ _ _ => False) (seqI_own (Nat.le_refl _)) (fun _ _ _ _ _ h _ _ => h) (fun k W h => h.rd) HI0.out
          10 (fun q k W => SeqA w7.heap.size g L.n y (y + 1) w5.heap.size w8.heap.size w5 (peersF (x, y)) (peersC x) ((k : Int), y) q k W) (fun q => seqA_own' (s := fun k : Nat => ((k : Int), y)) (Nat.le_refl _)) ?assign ?body ?done ?stop
        case assign =>
          intro l k W Kc hi hk hK
          rw [nthSpot_one]
          have hv := row2 W (.int .i64 k) (.int .i64 y) 45
          have hi' := hi.grow (Nat.le_refl _) (World.grownBy_alloc W (.cells #[.int .i64 k, .int .i64 y] 45) none)
          have hszW := hi.size
          have hk2 := hK W.heap.size _ ⟨hi', hv, by omega⟩ ((KeepsOthers.alloc _ _).from _)
          rw [nthSpot_one] at hk2
          unfold spotA at hk2 ⊢
          simp only [List.setIfInBounds_toArray, List.set_cons_zero, List.set_cons_succ] at hk2 ⊢
          have HK := Lib.hid hk2; clear hK hk2 hi' hv hi
          gi_wp2
          exact HK.out
        case body =>
          intro l q k W hA hk
          have hi := hA.I
          obtain ⟨q0, q1⟩ := row2_cells hA.var
          have hszW := hi.size
          obtain ⟨x0, -⟩ := row2_cells (Hrx.out.all hi.below)
          obtain ⟨v, ho, hown⟩ := hi.out
          have ho0 := ho.cell (i := 0) (by omega)
          have hof := ho.frozen 0
          obtain ⟨av, cv, rfl⟩ := hown.slice
          have Hi := Lib.hid hi; clear hi hA
          have Ho := Lib.hid ho; clear ho
          have Hown := Lib.hid hown; clear hown
          rw [nthSpot_one]
          unfold spotA
          simp only [List.setIfInBounds_toArray, List.set_cons_zero, List.set_cons_succ]
          by_cases hkx : (k : Int) = x
          · have hkb : ((k : Int) != x) = false := by rw [bne_eq_false_iff_eq]; exact hkx
            have hI' : SeqI w7.heap.size g L.n y (y + 1) w5.heap.size w8.heap.size w5 (peersF (x, y)) (peersC x) (k + 1) W := by
              have hc : peersC x (k + 1) = peersC x k := by unfold peersC; rw [if_neg (by omega), if_pos (by omega)]; omega
              have h := Hi.out
              exact ⟨h.rd, by rw [hc]; exact h.out, h.below, h.size, h.lt, h.ne⟩
            have HI' := Lib.hid hI'; clear hI' hkx
            gi_wp2
            exact ⟨⟨Nat.le_refl _, fun _ _ _ h _ => h⟩, HI'.out⟩
          · have hkb : ((k : Int) != x) = true := by rw [bne_iff_ne]; exact hkx
            have hc : peersC x (k + 1) = peersC x k + 1 := by unfold peersC; split <;> split <;> omega
            have hs : ((k : Int), y) = peersF (x, y) (peersC x k) := by
              unfold peersF peersC
              dsimp only
              by_cases hlt : (k : Int) < x
              · rw [if_pos (show k ≤ x.toNat by omega), if_pos hlt]
              · rw [if_neg (show ¬ k ≤ x.toNat by omega), if_neg (by omega)]
                congr 1; omega
            have hcn : peersC x k ≤ k := by unfold peersC; split <;> omega
            have Hc := Lib.hid hc; clear hc
            have Hs := Lib.hid hs; clear hs hkx
            gi_wp2_with (gi_at_builtin; refine Hold.stop ?_)
            refine Hold.go ?_
            refine wpListIn_append_sp rfl _ _ rfl w8.heap.size _ (peersC x k) (peersF (x, y)) rfl (Hown.out.alloc _) W.heap.size 0 1 1 (fun _ => ((k : Int), y)) rfl (cells1 W k y) (by omega) (by simp; omega) ?_
            intro v' W3 hown' hgr
            obtain ⟨r1, hI', hK⟩ := seq_step Hi.out ((k : Int), y) _ v' Ho.out Hown.out Hs.out Hc.out hown' hgr w8.heap.size
            obtain ⟨a3, c3, rfl⟩ := hown'.slice
            have r1c := r1.cell (i := 0) (by omega)
            have r1f := r1.frozen 0
            have Hn := Lib.hid (And.intro hK hI')
            clear hK hI' hown' hgr r1
            gi_wp2
            exact Hn.out
        case done =>
          intro D W hD hi hK
          rw [Nat.mul_one] at hi
          have hcn : peersC x L.n = L.n - 1 := by unfold peersC; rw [if_neg (by omega)]
          obtain ⟨v, ho, hown⟩ := hi.out
          rw [hcn] at hown
          obtain ⟨av, cv, rfl⟩ := hown.slice
          have ho0 := ho.cell (i := 0) (by omega)
          have hi0 := Lib.hid hi
          have Hown := Lib.hid hown; clear hown hi ho hcn
          gi_wp2
          refine ⟨by simp, .inl ⟨_, _, rfl, run_takeDeferred hK, ?_⟩⟩
          have hlw : w.heap.size ≤ w8.heap.size := Nat.le_trans (hB7'.trans (hB8.mono hB7'.size)).size (Nat.le_refl _)
          refine ⟨.tuple #[.slice av (L.n - 1) cv, .int .i64 0], by simp [results, Try.results33, go_sem], .inl ⟨Hg7.out.right, Hp.out, _, rfl, ?_⟩, ?_⟩
          · rw [Hpn.out]
            exact (Hown.out.mono hlw).kept (grownBy_putObj' W D _) (fun r e => by cases e; exact ⟨_, hK, rfl⟩)
          · exact hB'.trans ((below_keptFrom (row := some D) (n₀ := w5.heap.size) (B := w8.heap.size) hi0.out.below (by omega) (Nat.le_refl _) (grownBy_putObj' W D _) (fun r e => by cases e; exact ⟨by omega, _, hK, rfl⟩)).mono hB'.size)
        case stop =>
          intro D c k W _ _ h _
          exact h.elim
  · have HR := Lib.hid hnR; clear hnR
    gi_wp2
    exact ⟨.tuple #[.slice none 0 0, .int .i64 1], by simp [results, Try.results33, go_sem], .inr (.inr ⟨HR.out, rfl⟩), hB.trans (hB4.mono hB.size)⟩

end Go.Proofs.Ytlbohmfhdchabaa
