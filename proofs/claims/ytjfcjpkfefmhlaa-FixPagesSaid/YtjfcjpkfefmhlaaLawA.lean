/- The small functions of the law's package and of its specification. -/
import Derived.Test.YtjfcjpkfefmhlaaFixP
namespace Go.Proofs.Ytjfcjpkfefmhlaa
open Go.RowKit
attribute [local go_sem] Oper.semAt_some

/-- An argument of bytes. -/
def ByteArg (w : World) (v : Value) (n : Nat) (f : Nat → Int) : Prop :=
  (n = 0 ∧ ∃ a cap, v = .slice a 0 cap) ∨ ∃ b off cap, v = .slice (some ⟨b, off, none⟩) n cap ∧ 0 < n ∧ n ≤ cap ∧ cap ≤ maxLen ∧ Cells w b off n (bytesV f) ∧ ∀ i, i < n → 0 ≤ f i ∧ f i < 256

theorem ByteArg.all {w w' : World} {v : Value} {n : Nat} {f : Nat → Int} (h : ByteArg w v n f) (hb : Below w.heap.size w w') : ByteArg w' v n f := by
  rcases h with h | ⟨b, off, cap, h1, h2, h3, h4, h5, h6⟩
  · exact .inl h
  · exact .inr ⟨b, off, cap, h1, h2, h3, h4, h5.all hb, h6⟩

theorem ByteArg.slice {w : World} {v : Value} {n : Nat} {f : Nat → Int} (h : ByteArg w v n f) : ∃ a cap, v = .slice a n cap := by
  rcases h with ⟨rfl, a, cap, rfl⟩ | ⟨b, off, cap, rfl, _⟩
  · exact ⟨_, _, rfl⟩
  · exact ⟨_, _, rfl⟩

theorem i64_of_wf {m : Int} (hm : (Lit.int .i64 m).wf = true) : -9223372036854775808 ≤ m ∧ m ≤ 9223372036854775807 := by
  simp [Lit.wf] at hm
  exact hm

theorem tmod_cases (m d : Int) (_ : 0 < d) : (0 ≤ m ∧ Int.tmod m d = m % d) ∨ (m < 0 ∧ Int.tmod m d = -((-m) % d)) := by
  by_cases h : 0 ≤ m
  · exact .inl ⟨h, Int.tmod_eq_emod_of_nonneg h⟩
  · refine .inr ⟨by omega, ?_⟩
    have := Int.neg_tmod (a := -m) (b := d)
    rw [Int.neg_neg] at this
    rw [this, Int.tmod_eq_emod_of_nonneg (by omega)]

theorem u8_of_wf {m : Int} (hm : (Lit.int .u8 m).wf = true) : 0 ≤ m ∧ m < 256 := by
  simp [Lit.wf] at hm
  have h1 : IntKind.u8.min = 0 := rfl
  have h2 : IntKind.u8.max = 255 := rfl
  omega

theorem byteArg_of_row {W : World} {a : Option Addr} {len cap : Nat} {zs : List Int} (h : (a = none ∧ len = 0 ∧ cap = 0 ∧ zs = []) ∨
    ∃ x, a = some x ∧ len ≤ cap ∧ cap ≤ maxLen ∧ zs.length = cap ∧ (∀ i, i < zs.length → W.cell? (x.add i) = some (.int .u8 (zs.getD i 0))) ∧ ∀ n ∈ zs, (Lit.int .u8 n).wf = true) :
    ByteArg W (.slice a len cap) len (fun i => zs.getD i 0) := by
  rcases h with ⟨rfl, rfl, rfl, rfl⟩ | ⟨x, rfl, hl, hm, hz, hcell, hwz⟩
  · exact .inl ⟨rfl, _, _, rfl⟩
  · by_cases h0 : len = 0
    · subst h0
      exact .inl ⟨rfl, _, _, rfl⟩
    · obtain ⟨b, off, spot⟩ := x
      have hc := hcell 0 (by omega)
      have hspot : spot = none := by simpa [Addr.add] using World.cell?_spot hc
      subst hspot
      refine .inr ⟨b, off, cap, rfl, by omega, hl, hm, fun i hi => ?_, fun i hi => ?_⟩
      · have := hcell i (by omega)
        by_cases hi0 : i = 0
        · subst hi0
          simpa [Addr.add, bytesV] using this
        · simpa [Addr.add, bytesV, hi0] using this
      · have hlt : i < zs.length := by omega
        exact u8_of_wf (hwz (zs.getD i 0) (by rw [List.getD_eq_getElem?_getD, List.getElem?_eq_getElem hlt]; exact List.getElem_mem hlt))

set_option maxHeartbeats 400000 in
theorem lawmarked_any (m : Int) (w : World) (hm : (Lit.int .i64 m).wf = true) :
    Calls Try.prog 17 #[.int .i64 m] w fun e w' => e = .returned (.int .i64 (m % 65535 + 1)) ∧ w = w' := by
  obtain ⟨r1, r2⟩ := i64_of_wf hm
  obtain ⟨t, ht⟩ : ∃ t, Int.tmod m 65535 = t := ⟨_, rfl⟩
  have hc := tmod_cases m 65535 (by omega)
  rw [ht] at hc
  have h1 : -65535 < t := by omega
  have h1' : t < 65535 := by omega
  by_cases h : t < 0
  · have h2 : m % 65535 = t + 65535 := by omega
    clear hc
    rw [h2]
    go_enter Try.func17, Try.ntmps17
    go_wp2
    go_ret
    exact ⟨rfl, rfl⟩
  · have h2 : m % 65535 = t := by omega
    clear hc
    rw [h2]
    go_enter Try.func17, Try.ntmps17
    go_wp2
    go_ret
    exact ⟨rfl, rfl⟩

def pageF (n : Nat) (f : Nat → Int) (i : Nat) : Int := if i < 18 ∨ n = 0 then 0 else f (i % n)
theorem pageF_bound {n : Nat} {f : Nat → Int} (hf : ∀ i, i < n → 0 ≤ f i ∧ f i < 256) (i : Nat) : 0 ≤ pageF n f i ∧ pageF n f i < 256 := by
  unfold pageF
  by_cases h : i < 18 ∨ n = 0
  · rw [if_pos h]; omega
  · rw [if_neg h]; exact hf _ (Nat.mod_lt _ (by omega))

def pageK (n : Nat) (f : Nat → Int) (k i : Nat) : Int := if i < k then pageF n f i else 0
theorem pageK_lt {n : Nat} {f : Nat → Int} {k i : Nat} (h : i < k) : pageK n f k i = pageF n f i := if_pos h
theorem pageK_ge {n : Nat} {f : Nat → Int} {k i : Nat} (h : ¬ i < k) : pageK n f k i = 0 := if_neg h

/-- What holds between two rounds of page. -/
def PageI (w : World) (g : Nat) (n : Nat) (f : Nat → Int) (k : Nat) (wr : World) : Prop :=
  RowAt wr g 5 512 512 (bytesV (pageK n f k)) ∧ Below w.heap.size w wr

theorem make_o {P : Program} (t e : TypeId) (z : Value) (bytes : Nat) (ht : P.underlying t = some (.slice e)) (hinfo : (P.info? e).map (fun i => (i.zero, i.size, i.bytes)) = some (some z, 1, bytes)) (hz : z.cells = #[z])
    (hby : bytes ≤ 1000) (k : IntKind) (n : Nat) (hn : n ≤ 1000000) (w : World) :
    ∃ w1, (Instr.makeSlice t (.int k n) (.int k n)).run P w = .ok (.slice (some ⟨w.heap.size, 0, none⟩) n n) w1 ∧ RowAt w1 w.heap.size e n n (fun _ => z) ∧ Below w.heap.size w w1 ∧ w1.heap.size = w.heap.size + 1 := by
  obtain ⟨i, hi⟩ : ∃ i, P.info? e = some i := by
    cases h : P.info? e with
    | none => rw [h] at hinfo; cases hinfo
    | some i => exact ⟨i, rfl⟩
  rw [hi] at hinfo
  simp only [Option.map_some, Option.some.injEq, Prod.mk.injEq] at hinfo
  obtain ⟨hzero, hsize, hbytes⟩ := hinfo
  have hb2 : i.bytes * n ≤ 1000 * 1000000 := Nat.mul_le_mul (by omega) hn
  have hr := run_make (P := P) w t e i z ht hi hzero k k n n (by omega) (by omega) (by omega) (by omega)
  rw [hz, hsize, Nat.mul_one, Int.toNat_natCast] at hr
  refine ⟨_, hr, ?_, (Below.refl _ _).alloc (Nat.le_refl _) _, by simp⟩
  have := RowAt.new w (madeCells #[z] n) e (fun _ => z) n (by simp [size_madeCells]) (fun i hi => by simp [madeCells, hi, Nat.mod_one])
  simpa [size_madeCells] using this

set_option maxRecDepth 8000 in
set_option maxHeartbeats 1000000 in
theorem page_any (v : Value) (n : Nat) (f : Nat → Int) (w : World) (hn : n ≤ 100000) (hv : ByteArg w v n f) :
    Calls Try.prog 19 #[v] w (Cloned w 512 (bytesV (pageF n f))) := by
  obtain ⟨w1, hmk, hrow, hbel, hs1⟩ := make_o (P := Try.prog) 22 5 _ _ Try.underlying22 info_u8 rfl (by decide) .i64 512 (by decide) w
  have Hs1 := Lib.hid hs1; clear hs1
  have hmk : (Instr.makeSlice 22 (.int .i64 512) (.int .i64 512)).run Try.prog w = _ := hmk
  have HI : Hid (PageI w w.heap.size n f 18 w1) := Lib.hid ⟨hrow.congr (fun i _ => by unfold bytesV; simp only [pageK, pageF]; by_cases h : i < 18 <;> simp [h]), hbel⟩
  clear hrow hbel
  rcases hv with ⟨rfl, a, cap, rfl⟩ | ⟨b, off, cap, rfl, h0, h1, h2, h3, h4⟩
  · go_enter Try.func19, Try.ntmps19
    go_wp2
    go_loopw [4] (fun t wr => ∃ k : Nat, k ≤ 512 ∧ t = .int .i64 k ∧ PageI w w.heap.size 0 f 18 wr) (fun t _ => 512 - (intOf t).toNat)
    case atStart => exact ⟨18, by omega, rfl, HI.out⟩
    case round =>
      obtain ⟨k, hk, rfl, hi⟩ := hrel
      have Hi := Lib.hid hi; clear hi
      by_cases hlt : k < 512
      · go_wp2
        go_roundw
        case rel => exact ⟨k + 1, by omega, by go_num, Hi.out⟩
        case measure => simp [intOf]; omega
      · go_wp2
        go_ret
        exact ⟨_, _, rfl, Nat.le_refl _, Hi.out.1.congr (fun i _ => by unfold bytesV; simp only [pageK, pageF]; by_cases h : i < 18 <;> simp [h]), by decide, Hi.out.2⟩
  · go_enter Try.func19, Try.ntmps19
    have hn0 : (0 : Int) < (n : Int) := by omega
    have h3 := Lib.hid h3
    go_wp2
    go_loopw [4] (fun t wr => ∃ k : Nat, 18 ≤ k ∧ k ≤ 512 ∧ t = .int .i64 k ∧ PageI w w.heap.size n f k wr) (fun t _ => 512 - (intOf t).toNat)
    case atStart => exact ⟨18, by omega, by omega, rfl, HI.out⟩
    case round =>
      obtain ⟨k, hk0, hk, rfl, hi⟩ := hrel
      have Hi := Lib.hid hi; clear hi
      by_cases hlt : k < 512
      · have hmod : Int.tmod (k : Int) (n : Int) = ((k % n : Nat) : Int) := by
          rw [Int.tmod_eq_emod_of_nonneg (by omega)]; rfl
        have hml : k % n < n := Nat.mod_lt _ (by omega)
        have cb := Hi.out.2
        have cz := Hi.out.1.frozen k
        have ck := Hi.out.1.cell (i := k) hlt
        have cs := h3.out.all Hi.out.2 (k % n) hml
        unfold bytesV at cs
        go_wp2
        have hi2 : PageI w w.heap.size n f (k + 1) (wr.setCell ⟨w.heap.size, k, none⟩ (.int .u8 (f (k % n)))) := by
          refine ⟨(Hi.out.1.set k _).congr (fun i _ => ?_), Hi.out.2.setCell (Nat.le_refl _) _⟩
          unfold bytesV
          by_cases h : i = k
          · subst h
            rw [if_pos rfl, pageK_lt (by omega), pageF, if_neg (by omega)]
          · rw [if_neg h]
            by_cases h' : i < k
            · rw [pageK_lt h', pageK_lt (by omega)]
            · rw [pageK_ge h', pageK_ge (by omega)]
        have Hi2 := Lib.hid hi2; clear hi2 Hi
        go_roundw
        case rel => exact ⟨k + 1, by omega, by omega, by go_num, Hi2.out⟩
        case measure => simp [intOf]; omega
      · go_wp2
        go_ret
        obtain rfl : k = 512 := by omega
        exact ⟨_, _, rfl, Nat.le_refl _, Hi.out.1.congr (fun i hi => by unfold bytesV; rw [pageK_lt hi]), by decide, Hi.out.2⟩

/-- A list of numbers that can be read. -/
def IntsAt (w : World) (v : Value) (L : List Int) : Prop :=
  (L = [] ∧ ∃ a cap, v = .slice a 0 cap) ∨ ∃ b off cap, v = .slice (some ⟨b, off, none⟩) L.length cap ∧ 0 < L.length ∧ L.length ≤ cap ∧ Cells w b off L.length (listV L)

theorem IntsAt.all {w w' : World} {v : Value} {L : List Int} (h : IntsAt w v L) (hb : Below w.heap.size w w') : IntsAt w' v L := by
  rcases h with h | ⟨b, off, cap, h1, h2, h3, h5⟩
  · exact .inl h
  · exact .inr ⟨b, off, cap, h1, h2, h3, h5.all hb⟩

theorem IntsAt.slice {w : World} {v : Value} {L : List Int} (h : IntsAt w v L) : ∃ a cap, v = .slice a L.length cap := by
  rcases h with ⟨rfl, a, cap, rfl⟩ | ⟨b, off, cap, rfl, _⟩
  · exact ⟨_, _, rfl⟩
  · exact ⟨_, _, rfl⟩

theorem IntsAt.own {w : World} {B : Nat} {v : Value} {L : List Int} (h : Own w B 3 v L.length (listV L)) : IntsAt w v L := by
  by_cases h0 : 0 < L.length
  · obtain ⟨g, cap, rfl, _, hrow, _⟩ := h.row h0
    exact .inr ⟨g, 0, cap, rfl, h0, hrow.le, hrow.reads⟩
  · have hL : L = [] := List.eq_nil_of_length_eq_zero (by omega)
    subst hL
    rcases h with ⟨rfl, _⟩ | ⟨g, cap, rfl, _⟩
    · exact .inl ⟨rfl, _, _, rfl⟩
    · exact .inl ⟨rfl, _, _, rfl⟩

theorem listV_ext {L M : List Int} (hl : L.length = M.length) (h : ∀ i, i < L.length → L.getD i 0 = M.getD i 0) : L = M := by
  apply List.ext_getElem hl
  intro i h1 h2
  have := h i h1
  simpa [List.getD_eq_getElem?_getD, h1, h2] using this

set_option maxHeartbeats 1000000 in
theorem sameInts_any (u v : Value) (L M : List Int) (w : World) (hn : L.length ≤ 100000) (hu : IntsAt w u L) (hv : IntsAt w v M) :
    Calls Try.prog 16 #[u, v] w fun e w' => e = .returned (.bool (decide (L = M))) ∧ Below w.heap.size w w' := by
  by_cases hl : L.length = M.length
  · rcases hu with ⟨rfl, a, cap, rfl⟩ | ⟨b, off, cap, rfl, h0, h1, hc⟩
    · obtain rfl : M = [] := List.eq_nil_of_length_eq_zero (by simpa using hl.symm)
      obtain ⟨a', c', rfl⟩ := hv.slice
      go_enter Try.func16, Try.ntmps16
      go_wp2
      go_loopw [5] (fun t wr => t = .int .i64 0 ∧ w = wr) (fun t _ => 0)
      case atStart => exact ⟨rfl, rfl⟩
      case round =>
        obtain ⟨rfl, rfl⟩ := hrel
        go_wp2
        go_ret
        exact ⟨by simp, Below.refl _ _⟩
    · rcases hv with ⟨rfl, _⟩ | ⟨b2, off2, cap2, rfl, h0', h1', hc2⟩
      · simp only [List.length_nil] at hl; omega
      · have hmn : M.length = L.length := hl.symm
        rw [hmn] at hc2 h0' h1' ⊢
        clear hl
        generalize hN : L.length = N at *
        have Hc := Lib.hid hc; clear hc
        have Hc2 := Lib.hid hc2; clear hc2
        have HN := Lib.hid hN; clear hN
        have Hmn := Lib.hid hmn; clear hmn
        go_enter Try.func16, Try.ntmps16
        go_wp2
        go_loopw [5] (fun t wr => ∃ k : Nat, k ≤ N ∧ t = .int .i64 k ∧ Below w.heap.size w wr ∧ ∀ i, i < k → L.getD i 0 = M.getD i 0) (fun t _ => N - (intOf t).toNat)
        case atStart => exact ⟨0, by omega, rfl, Below.refl _ _, fun i hi => absurd hi (by omega)⟩
        case round =>
          obtain ⟨k, hk, rfl, hb, hq⟩ := hrel
          have Hq := Lib.hid hq; clear hq
          by_cases hlt : k < N
          · have c1 := Hc.out.all hb k hlt
            have c2 := Hc2.out.all hb k hlt
            unfold listV at c1 c2
            generalize hx : L.getD k 0 = x at *
            generalize hy : M.getD k 0 = y at *
            have Hx := Lib.hid hx; clear hx
            have Hy := Lib.hid hy; clear hy
            rcases he : (x != y) with _ | _
            · have He := Lib.hid he
              go_wp2
              go_quiet (fail)
              go_wp2
              go_roundw
              case rel => exact ⟨k + 1, by omega, by go_num, hb.trans (below_drewN _ _ _), fun i hi => if h : i = k then by rw [h, Hx.out, Hy.out]; simpa using He.out else Hq.out i (by omega)⟩
              case measure => simp [intOf]; omega
            · have He := Lib.hid he
              go_wp2
              go_quiet (fail)
              go_wp2
              go_ret
              refine ⟨ret_bool ?_, hb.trans (below_drewN _ _ _)⟩
              symm
              rw [decide_eq_false_iff_not]
              rintro rfl
              have := He.out
              rw [← Hx.out, ← Hy.out] at this
              simp at this
          · go_wp2
            go_ret
            refine ⟨ret_bool ?_, hb⟩
            symm
            rw [decide_eq_true_eq]
            exact listV_ext (by rw [HN.out, Hmn.out]) (fun i hi => Hq.out i (by rw [HN.out] at hi; omega))
  · have hb0 : ((L.length : Int) == (M.length : Int)) = false := by rw [beq_eq_false_iff_ne]; omega
    have hd : decide (L = M) = false := by simp; rintro rfl; exact hl rfl
    rw [hd]
    obtain ⟨a, c, rfl⟩ := hu.slice
    obtain ⟨a', c', rfl⟩ := hv.slice
    go_enter Try.func16, Try.ntmps16
    go_wp2
    go_ret
    exact ⟨rfl, Below.refl _ _⟩

set_option maxHeartbeats 400000 in
theorem sameBytes_nums (u v : Value) (x y : ByteArray) (w : World) (hx : ∃ a n c, u = .slice a n c) (hy : ∃ a n c, v = .slice a n c) (h1 : (convert 22 9 u).run Try.prog w = .ok (.string x) w) (h2 : (convert 22 9 v).run Try.prog w = .ok (.string y) w) :
    Calls Try.prog 15 #[u, v] w fun e w' => e = .returned (.bool (x.toList == y.toList)) ∧ w = w' := by
  obtain ⟨a, n, c, rfl⟩ := hx
  obtain ⟨a', n', c', rfl⟩ := hy
  go_enter Try.func15, Try.ntmps15
  go_wp2
  go_ret
  exact ⟨rfl, rfl⟩

end Go.Proofs.Ytjfcjpkfefmhlaa
