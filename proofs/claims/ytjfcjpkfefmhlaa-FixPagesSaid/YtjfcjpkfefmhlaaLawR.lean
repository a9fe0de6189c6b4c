/- What the calls of FixPages come to, code and specification alike. -/
import Derived.Test.YtjfcjpkfefmhlaaLawQ
namespace Go.Proofs.Ytjfcjpkfefmhlaa
open Go.RowKit
attribute [local go_sem] Oper.semAt_some

/-- A list of bytes that was made from block B on (or nil), whose text is x. -/
def StrOwn (B : Nat) (v : Value) (x : ByteArray) (w : World) : Prop :=
  (v = .slice none 0 0 ∧ x = noStr) ∨ ∃ g n cap f, v = .slice (some ⟨g, 0, none⟩) n cap ∧ x = strF n f ∧ B ≤ g ∧ RowAt w g 5 cap n (bytesV f)
theorem StrOwn.at {B : Nat} {v : Value} {x : ByteArray} {w : World} (h : StrOwn B v x w) : StrAt v x w := by
  rcases h with ⟨rfl, rfl⟩ | ⟨g, n, cap, f, rfl, rfl, _, hr⟩
  · exact StrAt.nil w
  · exact StrAt.row hr
theorem StrOwn.all {B : Nat} {v : Value} {x : ByteArray} {w w' : World} (h : StrOwn B v x w) (hb : Below w.heap.size w w') : StrOwn B v x w' := by
  rcases h with h | ⟨g, n, cap, f, rfl, rfl, hB, hr⟩
  · exact .inl h
  · exact .inr ⟨g, n, cap, f, rfl, rfl, hB, hr.all hb⟩
theorem StrOwn.setOther {B : Nat} {v : Value} {x : ByteArray} {w : World} (h : StrOwn B v x w) (a : Addr) (u : Value) (ha : a.block < B) : StrOwn B v x (w.setCell a u) := by
  rcases h with h | ⟨g, n, cap, f, rfl, rfl, hB, hr⟩
  · exact .inl h
  · exact .inr ⟨g, n, cap, f, rfl, rfl, hB, hr.setOther a u (by omega)⟩

/-- A pair (bytes, error) as the code returns it, and as the specification does. -/
def PairOk (w : World) (r : ByteArray × Int) (e : Ending) (w' : World) : Prop := ∃ v, e = .returned (.tuple #[v, .int .i64 r.2]) ∧ StrOwn w.heap.size v r.1 w' ∧ Below w.heap.size w w'
def RawAll (w : World) (r : ByteArray × Int) (e : Ending) (w' : World) : Prop := ∃ v, e = .returned (.agg #[v, .int .i64 r.2]) ∧ StrOwn w.heap.size v r.1 w' ∧ Below w.heap.size w w'

theorem PairOk.bad {w : World} {c : Int} {e : Ending} {w' : World} (h : GuardBad w c e w') : PairOk w (noStr, c) e w' := ⟨_, h.1, .inl ⟨rfl, rfl⟩, h.2⟩
theorem RawAll.bad {w : World} {c : Int} {e : Ending} {w' : World} (h : RawBad w c e w') : RawAll w (noStr, c) e w' := ⟨_, h.1, .inl ⟨rfl, rfl⟩, h.2⟩
theorem PairOk.good {w : World} {f : Nat → Int} {e : Ending} {w' : World} (h : BlendOk w f e w') : PairOk w (strF 512 f, 0) e w' := by
  obtain ⟨g, cp, rfl, hg, hr, _, hb⟩ := h
  exact ⟨_, rfl, .inr ⟨_, _, _, _, rfl, rfl, hg, hr⟩, hb⟩
theorem RawAll.good {w : World} {f : Nat → Int} {e : Ending} {w' : World} (h : RawOk w f e w') : RawAll w (strF 512 f, 0) e w' := by
  obtain ⟨g, cp, rfl, hg, hr, _, hb⟩ := h
  exact ⟨_, rfl, .inr ⟨_, _, _, _, rfl, rfl, hg, hr⟩, hb⟩

theorem intsAt_row8 {w : World} {g cap : Nat} {x : Nat → Int} (h : RowAt w g 3 cap 8 (intsV x)) : IntsAt w (.slice (some ⟨g, 0, none⟩) 8 cap) ((List.range 8).map x) := by
  refine .inr ⟨g, 0, cap, by simp, by simp, by simpa using h.le, ?_⟩
  have hr := h.reads
  have hl : ((List.range 8).map x).length = 8 := by simp
  rw [hl]
  exact hr.congr fun i hi => by unfold intsV listV; simp [List.getD_eq_getElem?_getD, hi]

def guardR (n : Nat) (f : Nat → Int) (m : Int) : ByteArray × Int :=
  if n = 512 ∧ 1 ≤ m ∧ m ≤ 65535 then if anyB (fun i => f i != 0) 18 = true then (noStr, 4) else (strF 512 (guardF m f), 0) else (noStr, 1)

theorem guard_all (v : Value) (n : Nat) (f : Nat → Int) (m : Int) (w : World) (h : ByteArg w v n f) :
    Calls Try.prog 18 #[v, .int .i64 m] w (PairOk w (guardR n f m)) := by
  obtain ⟨a, c, rfl⟩ := h.slice
  unfold guardR
  by_cases hn : n = 512
  · subst hn
    by_cases hm : 1 ≤ m ∧ m ≤ 65535
    · rcases h with ⟨h, _⟩ | ⟨b, off, cap, hv, _, hcap, hmx, hc, hf⟩
      · omega
      cases hv
      rw [if_pos ⟨rfl, hm⟩]
      by_cases ha : anyB (fun i => f i != 0) 18 = true
      · rw [if_pos ha]
        exact (guard_form b off _ hcap m hm f ha w hc).mono fun e w' h => PairOk.bad h
      · rw [if_neg ha]
        exact (guard_ok b off _ hcap m hm f hf (by simpa using ha) w hc).mono fun e w' h => PairOk.good h
    · rw [if_neg (fun h => hm h.2)]
      exact (guard_mark a c m hm w).mono fun e w' h => PairOk.bad h
  · rw [if_neg (fun h => hn h.1)]
    exact (guard_len a n c hn m w).mono fun e w' h => PairOk.bad h

theorem rGuard_all (v : Value) (n : Nat) (f : Nat → Int) (m : Int) (w : World) (h : ByteArg w v n f) :
    Calls Try.prog 26 #[v, .int .i64 m] w (RawAll w (guardR n f m)) := by
  obtain ⟨a, c, rfl⟩ := h.slice
  unfold guardR
  by_cases hn : n = 512 ∧ 1 ≤ m ∧ m ≤ 65535
  · obtain ⟨rfl, hm⟩ := hn
    rcases h with ⟨h, _⟩ | ⟨b, off, cap, hv, _, hcap, hmx, hc, hf⟩
    · omega
    cases hv
    rw [if_pos ⟨rfl, hm⟩]
    refine (rGuard_main b off _ hcap m hm f hf w hc).mono fun e w' h => ?_
    unfold RGuardPost at h
    by_cases ha : anyB (fun i => f i != 0) 18 = true
    · rw [if_pos ha] at h ⊢
      exact RawAll.bad h
    · rw [if_neg ha] at h ⊢
      exact RawAll.good h
  · rw [if_neg hn]
    exact (rGuard_arg a n c m hn w).mono fun e w' h => RawAll.bad h

def mendR (n : Nat) (f : Nat → Int) (s : Int) (m : Nat) (h : Nat → Int) : ByteArray × Int :=
  if n = 512 ∧ (0 ≤ s ∧ s ≤ 7) ∧ m = 64 then if wholeB (mendF f h s.toNat) = true then (strF 512 (mendF f h s.toNat), 0) else (noStr, 8) else (noStr, 1)

theorem mend_all (v u : Value) (n m : Nat) (f h : Nat → Int) (s : Int) (w : World) (hv : ByteArg w v n f) (hu : ByteArg w u m h) :
    Calls Try.prog 24 #[v, .int .i64 s, u] w (PairOk w (mendR n f s m h)) := by
  obtain ⟨a, c, rfl⟩ := hv.slice
  obtain ⟨a2, c2, rfl⟩ := hu.slice
  unfold mendR
  by_cases hn : n = 512 ∧ (0 ≤ s ∧ s ≤ 7) ∧ m = 64
  · obtain ⟨rfl, hs, rfl⟩ := hn
    rcases hv with ⟨h, _⟩ | ⟨b, off, cap, hv, _, hcap, hmx, hc, hf⟩
    · omega
    rcases hu with ⟨h, _⟩ | ⟨b2, off2, cap2, hu, _, hcap2, hmx2, hc2, hf2⟩
    · omega
    cases hv
    cases hu
    rw [if_pos ⟨rfl, hs, rfl⟩]
    have hm := mend_main b off c b2 off2 c2 hcap2 s.toNat (by omega) f h hf hf2 w hc hc2
    rw [show ((s.toNat : Nat) : Int) = s from by omega] at hm
    refine hm.mono fun e w' h => ?_
    unfold MendPost at h
    split at h
    · rename_i hw
      rw [if_pos hw]
      exact PairOk.good h
    · rename_i hw
      rw [if_neg hw]
      exact PairOk.bad h
  · rw [if_neg hn]
    exact (mend_bad a a2 n c m c2 s hn w).mono fun e w' h => PairOk.bad h

theorem rMend_all (v u : Value) (n m : Nat) (f h : Nat → Int) (s : Int) (w : World) (hv : ByteArg w v n f) (hu : ByteArg w u m h) :
    Calls Try.prog 36 #[v, .int .i64 s, u] w (RawAll w (mendR n f s m h)) := by
  obtain ⟨a, c, rfl⟩ := hv.slice
  obtain ⟨a2, c2, rfl⟩ := hu.slice
  unfold mendR
  by_cases hn : n = 512 ∧ (0 ≤ s ∧ s ≤ 7) ∧ m = 64
  · obtain ⟨rfl, hs, rfl⟩ := hn
    rcases hv with ⟨h, _⟩ | ⟨b, off, cap, hv, _, hcap, hmx, hc, hf⟩
    · omega
    rcases hu with ⟨h, _⟩ | ⟨b2, off2, cap2, hu, _, hcap2, hmx2, hc2, hf2⟩
    · omega
    cases hv
    cases hu
    rw [if_pos ⟨rfl, hs, rfl⟩]
    have hm := rMend_main b off c b2 off2 c2 hcap2 s.toNat (by omega) f h hf hf2 w hc hc2
    rw [show ((s.toNat : Nat) : Int) = s from by omega] at hm
    refine hm.mono fun e w' h => ?_
    unfold RMendPost at h
    split at h
    · rename_i hw
      rw [if_pos hw]
      exact RawAll.good h
    · rename_i hw
      rw [if_neg hw]
      exact RawAll.bad h
  · rw [if_neg hn]
    exact (rMend_bad a a2 n c m c2 s hn w).mono fun e w' h => RawAll.bad h

def openR (n : Nat) (f : Nat → Int) : ByteArray × Int × Int :=
  if n = 512 then if wholeB f = true then (strF 512 (openF f), markI f 0, 0) else (noStr, 0, 8) else (noStr, 0, 1)

theorem open_all (v : Value) (n : Nat) (f : Nat → Int) (w : World) (h : ByteArg w v n f) :
    Calls Try.prog 20 #[v] w fun e w' => ∃ v, e = .returned (.tuple #[v, .int .i64 (openR n f).2.1, .int .i64 (openR n f).2.2]) ∧ StrAt v (openR n f).1 w' ∧ Below w.heap.size w w' := by
  refine (open_arg v n f w h).mono ?_
  rintro e w' (⟨rfl, hw, _, g, cp, rfl, _, hp, hb⟩ | ⟨hn, rfl, hb⟩ | ⟨rfl, hw, rfl, hb⟩)
  · unfold openR
    rw [if_pos rfl, if_pos hw]
    exact ⟨_, rfl, StrAt.pg hp, hb⟩
  · unfold openR
    rw [if_neg hn]
    exact ⟨_, rfl, StrAt.nil _, hb⟩
  · unfold openR
    rw [if_pos rfl, if_neg (by rw [hw]; simp)]
    exact ⟨_, rfl, StrAt.nil _, hb⟩

theorem rOpen_all (v : Value) (n : Nat) (f : Nat → Int) (w : World) (h : ByteArg w v n f) :
    Calls Try.prog 27 #[v] w fun e w' => ∃ v, e = .returned (.agg #[v, .int .i64 (openR n f).2.1, .int .i64 (openR n f).2.2]) ∧ StrAt v (openR n f).1 w' ∧ Below w.heap.size w w' := by
  obtain ⟨a, c, rfl⟩ := h.slice
  unfold openR
  by_cases hn : n = 512
  · subst hn
    rcases h with ⟨h, _⟩ | ⟨b, off, cap, hv, _, hcap, hmx, hc, hf⟩
    · omega
    cases hv
    rw [if_pos rfl]
    refine (rOpen_main b off _ hcap hmx f hf w hc).mono fun e w' h => ?_
    unfold ROpenPost at h
    split at h
    · rename_i hw
      rw [if_pos hw]
      obtain ⟨g, cp, rfl, _, hr, _, hb⟩ := h
      exact ⟨_, rfl, StrAt.row hr, hb⟩
    · rename_i hw
      rw [if_neg hw]
      exact ⟨_, h.1, StrAt.nil _, h.2⟩
  · rw [if_neg hn]
    exact (rOpen_len a n c hn w).mono fun e w' h => ⟨_, h.1, StrAt.nil _, h.2⟩

end Go.Proofs.Ytjfcjpkfefmhlaa
