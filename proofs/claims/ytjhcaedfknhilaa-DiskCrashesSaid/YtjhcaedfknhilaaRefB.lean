/- The reference: Same. -/
import Derived.Test.YtjhcaedfknhilaaRefA
namespace Go.Proofs.Ytjhcaedfknhilaa
open Go.RowKit
attribute [local go_sem ↓] Go.wp_at_zero Go.wp_at_succ

/-- The text of a list of bytes, in each world with this memory. -/
def Txt (v : Value) (n : Nat) (f : Nat → Int) (w : World) : Prop := ∀ k, (convert 27 9 v).run Try.prog (w.drewN k) = .ok (.string (strF n f)) (w.drewN k)
theorem conv_none (c : Nat) (w : World) : (convert 27 9 (.slice none 0 c)).run Try.prog w = .ok (.string (strF 0 fun _ => 0)) w := by kernel_rfl
theorem conv_some (x : Addr) (c : Nat) (w : World) : (convert 27 9 (.slice (some x) 0 c)).run Try.prog w = .ok (.string (strF 0 fun _ => 0)) w := by kernel_rfl
theorem BArg.str {B : Nat} {w : World} {v : Value} {n : Nat} {f : Nat → Int} (h : BArg B w v n f) : (convert 27 9 v).run Try.prog w = .ok (.string (strF n f)) w := by
  rcases h with ⟨_, (⟨rfl, x, c, rfl⟩ | ⟨b, off, c, rfl, _, _, _, h4, _⟩)⟩
  · rw [strF_congr (g := fun _ => 0) (fun i hi => absurd hi (Nat.not_lt_zero i))]
    rcases x with _ | x
    · exact conv_none c w
    · exact conv_some x c w
  · exact convert_cells 27 5 9 Try.underlying27 (by kernel_rfl) (by kernel_rfl) b off n c f w h4
theorem BArg.txt {B : Nat} {w : World} {v : Value} {n : Nat} {f : Nat → Int} (h : BArg B w v n f) : Txt v n f w := fun k => BArg.str (B := B) (w := w.drewN k) h

/-- The elements of a queue in memory. -/
theorem QArg.elem {B : Nat} {w : World} {v : Value} {q : Nat} {a : Nat → Int} {l : Nat → Nat} {f : Nat → Nat → Int} (h : QArg B w v q a l f) {i : Nat} (hi : i < q) :
    ∃ b off cap bv, v = .slice (some ⟨b, off, none⟩) q cap ∧ w.cell? ⟨b, off + i * 2, none⟩ = some (.int .i64 (a i)) ∧ w.cell? ⟨b, off + i * 2 + 1, none⟩ = some bv ∧ BArg B w bv (l i) (f i) := by
  rcases h with ⟨_, (⟨h0, _⟩ | ⟨b, off, cap, bv, rfl, _, _, _, h4, _, h6⟩)⟩
  · omega
  · refine ⟨b, off, cap, bv i, rfl, ?_, ?_, h6 i hi⟩
    · have := h4 (i * 2) (by omega)
      rw [this]
      unfold putC
      rw [if_pos (by omega), show i * 2 / 2 = i from by omega]
    · have := h4 (i * 2 + 1) (by omega)
      rw [Nat.add_assoc, this]
      unfold putC
      rw [if_neg (by omega), show (i * 2 + 1) / 2 = i from by omega]
theorem NArg.elem {B : Nat} {w : World} {v : Value} {n : Nat} {f : Nat → Int} (h : NArg B w v n f) {i : Nat} (hi : i < n) : ∃ b off cap, v = .slice (some ⟨b, off, none⟩) n cap ∧ w.cell? ⟨b, off + i, none⟩ = some (.int .i64 (f i)) := by
  rcases h with ⟨_, (⟨h0, _⟩ | ⟨b, off, cap, rfl, _, _, _, h4, _⟩)⟩
  · omega
  · exact ⟨b, off, cap, rfl, h4 i hi⟩

theorem cells6 {W : World} {g : Nat} {t : TypeId} {a b c d e f : Value} (h : RowAt W g t 6 6 (st6 a b c d e f)) : W.cell? ⟨g, 0, none⟩ = some a ∧ W.cell? ⟨g, 1, none⟩ = some b ∧ W.cell? ⟨g, 2, none⟩ = some c ∧ W.cell? ⟨g, 3, none⟩ = some d ∧ W.cell? ⟨g, 4, none⟩ = some e ∧ W.cell? ⟨g, 5, none⟩ = some f :=
  ⟨h.cell (i := 0) (by omega), h.cell (i := 1) (by omega), h.cell (i := 2) (by omega), h.cell (i := 3) (by omega), h.cell (i := 4) (by omega), h.cell (i := 5) (by omega)⟩
theorem below_dn {B : Nat} {w w' : World} (h : Below B w w') (k : Nat) : Below B w (w'.drewN k) := h.trans (below_drewN B w' k)
theorem bne_same (b : Bool) : (b != b) = false := by cases b <;> rfl

set_option maxRecDepth 100000 in
set_option maxHeartbeats 4000000 in
theorem Same_refl {B1 B2 : Nat} {dv qv bv dv' qv' bv' : Value} {X : Dev} (w : World) (hx : DevAt B1 w dv qv bv X) (hy : DevAt B2 w dv' qv' bv' X) :
    Calls Try.prog 12 #[devV dv qv bv X, devV dv' qv' bv' X] w fun e w' => e = .returned (.bool true) ∧ Below w.heap.size w w' := by
  obtain ⟨dx, dc, rfl, -⟩ := hx.data.slice
  obtain ⟨qx, qc, rfl, hq⟩ := hx.queue.slice
  obtain ⟨bx, bc, rfl, hm⟩ := hx.bad.slice
  obtain ⟨dy, ec, rfl, -⟩ := hy.data.slice
  obtain ⟨qy, rc, rfl, -⟩ := hy.queue.slice
  obtain ⟨by', cc, rfl, -⟩ := hy.bad.slice
  unfold maxLen at hq hm
  have hr1 := (row_six w (.slice dx X.n dc) (.slice qx X.q qc) (.slice bx X.m bc) (.bool X.dead) (.bool X.armed) (.int .i64 X.left) 31).alloc (.cells #[.slice dy X.n ec, .slice qy X.q rc, .slice by' X.m cc, .bool X.dead, .bool X.armed, .int .i64 X.left] 31)
  have hr2 := row_six (w.alloc (.cells #[.slice dx X.n dc, .slice qx X.q qc, .slice bx X.m bc, .bool X.dead, .bool X.armed, .int .i64 X.left] 31)) (.slice dy X.n ec) (.slice qy X.q rc) (.slice by' X.m cc) (.bool X.dead) (.bool X.armed) (.int .i64 X.left) 31
  have hbl : Below w.heap.size w ((w.alloc (.cells #[.slice dx X.n dc, .slice qx X.q qc, .slice bx X.m bc, .bool X.dead, .bool X.armed, .int .i64 X.left] 31)).alloc (.cells #[.slice dy X.n ec, .slice qy X.q rc, .slice by' X.m cc, .bool X.dead, .bool X.armed, .int .i64 X.left] 31)) :=
    ((Below.refl _ w).alloc (Nat.le_refl _) _).alloc (by simp) _
  rw [World.size_alloc] at hr2
  unfold devV
  go_enter Try.func12, Try.ntmps12
  go_upto_region 1 with fail
  generalize (w.alloc (.cells #[.slice dx X.n dc, .slice qx X.q qc, .slice bx X.m bc, .bool X.dead, .bool X.armed, .int .i64 X.left] 31)).alloc (.cells #[.slice dy X.n ec, .slice qy X.q rc, .slice by' X.m cc, .bool X.dead, .bool X.armed, .int .i64 X.left] 31) = W at *
  have HX := Lib.hid (hx.all hbl)
  have HY := Lib.hid (hy.all hbl)
  have HB := Lib.hid hbl
  have H1 := Lib.hid hr1
  have H2 := Lib.hid hr2
  have b0 := HX.out.data.str
  have b1 := HY.out.data.str
  obtain ⟨a0, a1, a2, a3, a4, a5⟩ := cells6 hr1
  obtain ⟨c0, c1, c2, c3, c4, c5⟩ := cells6 hr2
  clear hx hy hbl hr1 hr2
  go_wp2_with fail
  clear a0 a1 a2 a3 a4 a5 c0 c1 c2 c3 c4 c5 b0 b1
  go_loopw [5] (fun t wr => ∃ i : Nat, i ≤ X.q ∧ t = .int .i64 i ∧ Below W.heap.size W wr) (fun t _ => X.q - (intOf t).toNat)
  case atStart => exact ⟨0, by omega, by go_num, Below.refl _ _⟩
  case round =>
    obtain ⟨i, hi, rfl, hbr⟩ := hrel
    obtain ⟨a0, a1, a2, a3, a4, a5⟩ := cells6 (H1.out.all hbr)
    obtain ⟨c0, c1, c2, c3, c4, c5⟩ := cells6 (H2.out.all hbr)
    have HBr := Lib.hid hbr
    clear hbr
    by_cases hlt : i < X.q
    · have hdlt : decide ((i : Int) < X.q) = true := decide_eq_true (by omega)
      obtain ⟨p1, o1, k1, u1, e1, d1, f1, g1⟩ := (HX.out.all HBr.out).queue.elem hlt
      obtain ⟨p2, o2, k2, u2, e2, d2, f2, g2⟩ := (HY.out.all HBr.out).queue.elem hlt
      cases e1
      cases e2
      have t1 := g1.txt
      have t2 := g2.txt
      unfold Txt at t1 t2
      go_upto_region 6 with fail
      go_quiet (fail)
      go_wp2
      go_roundw
      case rel => exact ⟨i + 1, by omega, by go_num, below_dn HBr.out _⟩
      case measure => simp [intOf]; omega
    · obtain rfl : X.q = i := by omega
      have hdlt : decide ((X.q : Int) < X.q) = false := decide_eq_false (by omega)
      go_wp2_with fail
      clear a0 a1 a2 a3 a4 a5 c0 c1 c2 c3 c4 c5 hdlt
      go_loopw [6] (fun t wr => ∃ i : Nat, i ≤ X.m ∧ t = .int .i64 i ∧ Below W.heap.size W wr) (fun t _ => X.m - (intOf t).toNat)
      case atStart => exact ⟨0, by omega, by go_num, HBr.out⟩
      case round =>
        obtain ⟨i, hi, rfl, hbr⟩ := hrel
        obtain ⟨a0, a1, a2, a3, a4, a5⟩ := cells6 (H1.out.all hbr)
        obtain ⟨c0, c1, c2, c3, c4, c5⟩ := cells6 (H2.out.all hbr)
        have HBs := Lib.hid hbr
        clear hbr
        by_cases hlt : i < X.m
        · have hdlt : decide ((i : Int) < X.m) = true := decide_eq_true (by omega)
          obtain ⟨p1, o1, k1, e1, d1⟩ := (HX.out.all HBs.out).bad.elem hlt
          obtain ⟨p2, o2, k2, e2, d2⟩ := (HY.out.all HBs.out).bad.elem hlt
          cases e1
          cases e2
          go_upto_region 11 with fail
          go_quiet (fail)
          go_wp2
          go_roundw
          case rel => exact ⟨i + 1, by omega, by go_num, below_dn HBs.out _⟩
          case measure => simp [intOf]; omega
        · obtain rfl : X.m = i := by omega
          have hdlt : decide ((X.m : Int) < X.m) = false := decide_eq_false (by omega)
          go_wp2_with fail
          go_ret
          exact ⟨rfl, HB.out.trans (HBs.out.mono HB.out.size)⟩

/-- Devices that are the same, plainly. -/
structure Dev.Same (X Y : Dev) : Prop where
  n : Y.n = X.n
  data : ∀ k, k < X.n → Y.data k = X.data k
  q : Y.q = X.q
  qa : ∀ i, i < X.q → Y.qa i = X.qa i
  ql : ∀ i, i < X.q → Y.ql i = X.ql i
  qb : ∀ i, i < X.q → ∀ k, k < X.ql i → Y.qb i k = X.qb i k
  m : Y.m = X.m
  bad : ∀ i, i < X.m → Y.bad i = X.bad i
  dead : Y.dead = X.dead
  armed : Y.armed = X.armed
  left : Y.left = X.left
theorem Dev.Same.rfl' (X : Dev) : X.Same X := ⟨rfl, fun _ _ => rfl, rfl, fun _ _ => rfl, fun _ _ => rfl, fun _ _ _ _ => rfl, rfl, fun _ _ => rfl, rfl, rfl, rfl⟩
theorem BArg.same {B B1 : Nat} {w w1 : World} {v u : Value} {n m : Nat} {f g : Nat → Int} (h : BArg B w v n f) (hg : BArg B1 w1 u m g) (hn : n = m) (hf : ∀ i, i < m → f i = g i) : BArg B w v m g := by
  subst hn
  refine ⟨hg.1, ?_⟩
  rcases h with ⟨_, (h | ⟨b, off, c, h0, h1, h2, h3, h4, h5⟩)⟩
  · exact .inl h
  · exact .inr ⟨b, off, c, h0, h1, h2, h3, fun i hi => by rw [h4 i hi]; simp only [byteF, hf i hi], h5⟩
theorem NArg.same {B B1 : Nat} {w w1 : World} {v u : Value} {n m : Nat} {f g : Nat → Int} (h : NArg B w v n f) (hg : NArg B1 w1 u m g) (hn : n = m) (hf : ∀ i, i < m → f i = g i) : NArg B w v m g := by
  subst hn
  refine ⟨hg.1, ?_⟩
  rcases h with ⟨_, (h | ⟨b, off, c, h0, h1, h2, h3, h4, h5⟩)⟩
  · exact .inl h
  · exact .inr ⟨b, off, c, h0, h1, h2, h3, fun i hi => by rw [h4 i hi]; simp only [intsV, hf i hi], h5⟩
theorem DevAt.same {B B1 : Nat} {w w1 : World} {dv qv bv dv' qv' bv' : Value} {X Y : Dev} (h : DevAt B1 w1 dv' qv' bv' Y) (hx : DevAt B w dv qv bv X) (hs : X.Same Y) : DevAt B1 w1 dv' qv' bv' X := by
  refine ⟨h.data.same hx.data hs.n hs.data, ?_, h.bad.same hx.bad hs.m hs.bad, hx.left⟩
  refine ⟨hx.queue.1, ?_⟩
  rcases h.queue with ⟨_, (⟨h0, h1⟩ | ⟨b, off, cap, bv2, h0, h1, h2, h3, h4, h5, h6⟩)⟩
  · refine .inl ⟨hs.q ▸ h0, h1⟩
  · rw [hs.q] at h0 h1 h2 h4 h6
    refine .inr ⟨b, off, cap, bv2, h0, h1, h2, h3, fun i hi => ?_, h5, fun i hi => ?_⟩
    · rw [h4 i hi]
      unfold putC
      rw [hs.qa (i / 2) (by omega)]
    · rcases hx.queue with ⟨_, (⟨h9, _⟩ | ⟨_, _, _, bv3, _, _, _, _, _, _, h10⟩)⟩
      · omega
      · exact (h6 i hi).same (h10 i hi) (hs.ql i hi) (hs.qb i hi)
theorem devV_same {dv qv bv : Value} {X Y : Dev} (hs : X.Same Y) : devV dv qv bv Y = devV dv qv bv X := by
  unfold devV
  rw [hs.dead, hs.armed, hs.left]
/-- Same of devices that are the same. -/
theorem Same_yes {B1 B2 : Nat} {dv qv bv dv' qv' bv' : Value} {X Y : Dev} (w : World) (hx : DevAt B1 w dv qv bv X) (hy : DevAt B2 w dv' qv' bv' Y) (hs : X.Same Y) :
    Calls Try.prog 12 #[devV dv qv bv X, devV dv' qv' bv' Y] w fun e w' => e = .returned (.bool true) ∧ Below w.heap.size w w' := by
  rw [devV_same hs]
  exact Same_refl w hx (hy.same hx hs)

end Go.Proofs.Ytjhcaedfknhilaa
