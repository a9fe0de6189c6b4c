/- FixMerges. -/
import Derived.Test.YtjfcjpkfefmhlaaLawK
namespace Go.Proofs.Ytjfcjpkfefmhlaa
open Go.RowKit
attribute [local go_sem] Oper.semAt_some

/-- A list of bytes whose text is x, in this world and in each later one. -/
def StrAt (v : Value) (x : ByteArray) (w : World) : Prop := (∃ a n c, v = .slice a n c) ∧ ∀ w', Below w.heap.size w w' → (convert 22 9 v).run Try.prog w' = .ok (.string x) w'

theorem StrAt.all {v : Value} {x : ByteArray} {w w' : World} (h : StrAt v x w) (hb : Below w.heap.size w w') : StrAt v x w' :=
  ⟨h.1, fun w'' hb' => h.2 w'' (hb.trans (hb'.mono hb.size))⟩
theorem StrAt.now {v : Value} {x : ByteArray} {w : World} (h : StrAt v x w) : (convert 22 9 v).run Try.prog w = .ok (.string x) w := h.2 w (Below.refl _ _)

def noStr : ByteArray := strF 0 (fun _ => 0)
theorem conv_nil (w : World) : (convert 22 9 (.slice none 0 0)).run Try.prog w = .ok (.string noStr) w := by kernel_rfl
theorem StrAt.nil (w : World) : StrAt (.slice none 0 0) noStr w := ⟨⟨_, _, _, rfl⟩, fun w' _ => conv_nil w'⟩
theorem StrAt.pg {w : World} {g cap : Nat} {f : Nat → Int} (h : Pg w g cap f) : StrAt (.slice (some ⟨g, 0, none⟩) 512 cap) (strF 512 f) w :=
  ⟨⟨_, _, _, rfl⟩, fun _ hb => (h.all hb).str⟩
theorem StrAt.row {w : World} {g cap n : Nat} {f : Nat → Int} (h : RowAt w g 5 cap n (bytesV f)) : StrAt (.slice (some ⟨g, 0, none⟩) n cap) (strF n f) w :=
  ⟨⟨_, _, _, rfl⟩, fun w' hb => convert_cells 22 5 9 Try.underlying22 (by kernel_rfl) (by kernel_rfl) g 0 n cap f w' (h.all hb).reads⟩

theorem sameBytes_at (u v : Value) (x y : ByteArray) (w : World) (hx : StrAt u x w) (hy : StrAt v y w) :
    Calls Try.prog 15 #[u, v] w fun e w' => e = .returned (.bool (x.toList == y.toList)) ∧ w = w' :=
  sameBytes_nums u v x y w hx.1 hy.1 hx.now hy.now

/-- What Merge answers. -/
def mergeR (n0 n1 : Nat) (f0 f1 : Nat → Int) : ByteArray × List Int × Int :=
  if n0 = 512 ∧ n1 = 512 then
    if bestOf (markI f0) (markI f1) = 0 then (noStr, [], 8)
    else (strF 512 (blendF (fun s => markI f0 s != bestOf (markI f0) (markI f1)) f0 f1), fromL (markI f0) (bestOf (markI f0) (markI f1)) 8, 0)
  else (noStr, [], 1)

theorem intsAt_nil (w : World) : IntsAt w (.slice none 0 0) [] := .inl ⟨rfl, _, _, rfl⟩

theorem merge_all (v0 v1 : Value) (n0 n1 : Nat) (f0 f1 : Nat → Int) (w : World) (h0 : ByteArg w v0 n0 f0) (h1 : ByteArg w v1 n1 f1) :
    Calls Try.prog 13 #[v0, v1] w fun e w' => ∃ v l, e = .returned (.tuple #[v, l, .int .i64 (mergeR n0 n1 f0 f1).2.2]) ∧ StrAt v (mergeR n0 n1 f0 f1).1 w' ∧ IntsAt w' l (mergeR n0 n1 f0 f1).2.1 ∧ Below w.heap.size w w' := by
  obtain ⟨a0, c0, rfl⟩ := h0.slice
  obtain ⟨a1, c1, rfl⟩ := h1.slice
  by_cases hn : n0 = 512 ∧ n1 = 512
  · obtain ⟨rfl, rfl⟩ := hn
    rcases h0 with ⟨h, _⟩ | ⟨b, off, cap, hv, _, hcap, hm, hc, hf⟩
    · omega
    rcases h1 with ⟨h, _⟩ | ⟨b2, off2, cap2, hv2, _, hcap2, hm2, hc2, hf2⟩
    · omega
    cases hv
    cases hv2
    refine (merge_main b off _ b2 off2 _ hcap hm hcap2 hm2 f0 f1 hf hf2 w hc hc2).mono ?_
    intro e w' h
    unfold MergePost at h
    unfold mergeR
    rw [if_pos ⟨rfl, rfl⟩]
    by_cases hb : bestOf (markI f0) (markI f1) = 0
    · rw [if_pos hb] at h ⊢
      exact ⟨_, _, h.1, StrAt.nil _, intsAt_nil _, h.2⟩
    · rw [if_neg hb] at h ⊢
      obtain ⟨g, cp, v, rfl, _, hr, _, ho, hbl⟩ := h
      exact ⟨_, _, rfl, StrAt.row hr, IntsAt.own (by rw [fromL_len]; exact ho), hbl⟩
  · refine (merge_len a0 a1 n0 c0 n1 c1 hn w).mono ?_
    intro e w' h
    unfold mergeR
    rw [if_neg hn]
    exact ⟨_, _, h.1, StrAt.nil _, intsAt_nil _, h.2⟩

theorem rMerge_all (v0 v1 : Value) (n0 n1 : Nat) (f0 f1 : Nat → Int) (w : World) (h0 : ByteArg w v0 n0 f0) (h1 : ByteArg w v1 n1 f1) :
    Calls Try.prog 14 #[v0, v1] w fun e w' => ∃ v l, e = .returned (.agg #[v, l, .int .i64 (mergeR n0 n1 f0 f1).2.2]) ∧ StrAt v (mergeR n0 n1 f0 f1).1 w' ∧ IntsAt w' l (mergeR n0 n1 f0 f1).2.1 ∧ Below w.heap.size w w' := by
  obtain ⟨a0, c0, rfl⟩ := h0.slice
  obtain ⟨a1, c1, rfl⟩ := h1.slice
  by_cases hn : n0 = 512 ∧ n1 = 512
  · obtain ⟨rfl, rfl⟩ := hn
    rcases h0 with ⟨h, _⟩ | ⟨b, off, cap, hv, _, hcap, hm, hc, hf⟩
    · omega
    rcases h1 with ⟨h, _⟩ | ⟨b2, off2, cap2, hv2, _, hcap2, hm2, hc2, hf2⟩
    · omega
    cases hv
    cases hv2
    refine (rMerge_main b off _ b2 off2 _ hcap hm hcap2 hm2 f0 f1 hf hf2 w hc hc2).mono ?_
    intro e w' h
    unfold RMergePost at h
    unfold mergeR
    rw [if_pos ⟨rfl, rfl⟩]
    by_cases hb : bestOf (markI f0) (markI f1) = 0
    · rw [if_pos hb] at h ⊢
      exact ⟨_, _, h.1, StrAt.nil _, intsAt_nil _, h.2⟩
    · rw [if_neg hb] at h ⊢
      obtain ⟨g, cp, v, rfl, _, hr, _, ho, hbl⟩ := h
      exact ⟨_, _, rfl, StrAt.row hr, IntsAt.own (by rw [fromL_len]; exact ho), hbl⟩
  · refine (rMerge_len a0 a1 n0 c0 n1 c1 hn w).mono ?_
    intro e w' h
    unfold mergeR
    rw [if_neg hn]
    exact ⟨_, _, h.1, StrAt.nil _, intsAt_nil _, h.2⟩

theorem mergeR_len (n0 n1 : Nat) (f0 f1 : Nat → Int) : (mergeR n0 n1 f0 f1).2.1.length ≤ 8 := by
  unfold mergeR
  split
  · split
    · exact Nat.zero_le _
    · show (fromL _ _ 8).length ≤ 8
      rw [fromL_len]; exact Nat.le_refl _
  · exact Nat.zero_le _

set_option maxRecDepth 8000 in
set_option maxHeartbeats 4000000 in
theorem fixMerges_walk (v0 : Value) (n0 : Nat) (f0 : Nat → Int) (v1 : Value) (n1 : Nat) (f1 : Nat → Int) (w : World) (h0 : ByteArg w v0 n0 f0) (h1 : ByteArg w v1 n1 f1) :
    Calls Try.prog 3 #[v0, v1] w (FinContent w) := by
  obtain ⟨a0, c0, rfl⟩ := h0.slice
  obtain ⟨a1, c1, rfl⟩ := h1.slice
  have H0 := Lib.hid h0; clear h0
  have H1 := Lib.hid h1; clear h1
  by_cases hl : n0 ≤ 2000
  · by_cases hl1 : n1 ≤ 2000
    · go_enter Try.func3, Try.ntmps3
      go_wp2_with fail
      have hlen := mergeR_len n0 n1 f0 f1
      have M1 := Lib.hid (merge_all _ _ _ _ f0 f1 _ H0.out H1.out)
      have M2 := Lib.hid (fun (W : World) (hb : Below w.heap.size w W) => rMerge_all _ _ _ _ f0 f1 W (H0.out.all hb) (H1.out.all hb))
      generalize (mergeR n0 n1 f0 f1).1 = x at *
      generalize (mergeR n0 n1 f0 f1).2.1 = L at *
      generalize (mergeR n0 n1 f0 f1).2.2 = E at *
      have HL := Lib.hid hlen; clear hlen
      refine M1.out.mono ?_
      rintro e w1 ⟨v, l, rfl, hx, hL, hb⟩
      obtain ⟨a3, n3, c3, rfl⟩ := hx.1
      obtain ⟨a4, c4, rfl⟩ := hL.slice
      have X1 := Lib.hid hx
      have L1 := Lib.hid hL
      have B1 := Lib.hid hb; clear hx hL hb
      go_wp2_with fail
      refine (M2.out _ B1.out).mono ?_
      rintro e w2 ⟨v, l, rfl, hy, hM, hb⟩
      obtain ⟨a5, n5, c5, rfl⟩ := hy.1
      obtain ⟨a6, c6, rfl⟩ := hM.slice
      have X2 := Lib.hid (X1.out.all hb)
      have L2 := Lib.hid (L1.out.all hb)
      have Y2 := Lib.hid hy
      have N2 := Lib.hid hM
      have B2 := Lib.hid (B1.out.trans (hb.mono B1.out.size)); clear hy hM hb X1 L1 B1
      go_wp2_with fail
      have hr := row3 w2 (.slice a5 n5 c5) (.slice a6 L.length c6) (.int .i64 E) 29
      have hb : Below w2.heap.size w2 (w2.alloc (.cells #[.slice a5 n5 c5, .slice a6 L.length c6, .int .i64 E] 29)) := (Below.refl _ w2).alloc (Nat.le_refl _) _
      refine (sanity_any _).mono ?_
      rintro e w3 ⟨rfl, hb2⟩
      have hr3 := hr.all hb2
      have q0 := hr3.cell (i := 0) (by omega)
      have q1 := hr3.cell (i := 1) (by omega)
      have q2 := hr3.cell (i := 2) (by omega)
      unfold st3 at q0 q1 q2
      simp only [if_true, Nat.one_ne_zero, if_false] at q0 q1
      have hb3 := hb.trans (hb2.mono hb.size)
      have X3 := Lib.hid (X2.out.all hb3)
      have L3 := Lib.hid (L2.out.all hb3)
      have Y3 := Lib.hid (Y2.out.all hb3)
      have N3 := Lib.hid (N2.out.all hb3)
      have B3 := Lib.hid (B2.out.trans (hb3.mono B2.out.size)); clear hr hb hb2 hr3 hb3 X2 L2 Y2 N2 B2
      go_wp2_with fail
      refine (sameBytes_at _ _ _ _ _ X3.out Y3.out).mono ?_
      rintro e w' ⟨rfl, rfl⟩
      rw [show (x.toList == x.toList) = true from by simp]
      go_wp2_with fail
      refine (sameInts_any _ _ _ _ _ (by have := HL.out; omega) L3.out N3.out).mono ?_
      rintro e w4 ⟨rfl, hb⟩
      rw [show decide (L = L) = true from by simp]
      go_wp2_with fail
      go_ret
      exact ⟨rfl, B3.out.trans (hb.mono B3.out.size)⟩
    · go_enter Try.func3, Try.ntmps3
      go_wp2_with fail
      refine (sanity_any _).mono ?_
      rintro e w8 ⟨rfl, hb⟩
      go_wp2_with fail
      go_ret
      exact ⟨rfl, hb⟩
  · go_enter Try.func3, Try.ntmps3
    go_wp2_with fail
    refine (sanity_any _).mono ?_
    rintro e w8 ⟨rfl, hb⟩
    go_wp2_with fail
    go_ret
    exact ⟨rfl, hb⟩

end Go.Proofs.Ytjfcjpkfefmhlaa
