/- What an act does on a disk. -/
import Derived.Test.YtjhcaedfknhilaaDiskNone
namespace Go.Proofs.Ytjhcaedfknhilaa
open Go.RowKit
attribute [local go_sem ↓] Go.wp_at_zero Go.wp_at_succ

/-- Sectors that are a disk's. -/
def inD (D : Dsk) (a m : Int) : Prop := 0 ≤ a ∧ 0 ≤ m ∧ a ≤ D.n ∧ m ≤ D.n - a
/-- What Read returns, as numbers. -/
def readI (D : Dsk) (a : Nat) (k : Nat) : Int := D.hasF (a + k / 64) (k % 64)
/-- What an act does, plainly: the disk behind it, the answer, how many bytes are read, and which. -/
def Does (D : Dsk) (A : Deed) (D' : Dsk) (c : Int) (n : Nat) (f : Nat → Int) : Prop :=
  (A.kind = 0 ∧ D' = D ∧ ((¬ inD D A.at' A.many ∧ c = 1 ∧ n = 0) ∨ (inD D A.at' A.many ∧ D.off = true ∧ c = 7 ∧ n = 0) ∨ (inD D A.at' A.many ∧ D.off = false ∧ ¬ readOk D A.at'.toNat A.many.toNat ∧ c = 7 ∧ n = 0) ∨
    (inD D A.at' A.many ∧ D.off = false ∧ readOk D A.at'.toNat A.many.toNat ∧ c = 0 ∧ n = A.many.toNat * 64 ∧ f = readI D A.at'.toNat))) ∨
  (A.kind = 1 ∧ n = 0 ∧ (((A.n % 64 ≠ 0 ∨ ¬ inD D A.at' (A.n / 64 : Nat)) ∧ D' = D ∧ c = 1) ∨ (A.n % 64 = 0 ∧ inD D A.at' (A.n / 64 : Nat) ∧ ((D.off = true ∧ D' = D ∧ c = 7) ∨ (D.off = false ∧ ¬ D.q + A.n / 64 ≤ 65536 ∧ D' = D ∧ c = 5) ∨
    (D.off = false ∧ D.q + A.n / 64 ≤ 65536 ∧ D' = D.write A.at'.toNat (A.n / 64) A.bytes ∧ c = 0))))) ∨
  (A.kind = 2 ∧ n = 0 ∧ ((D.off = true ∧ D' = D ∧ c = 7) ∨ (D.off = false ∧ D' = D.sync ∧ c = 0))) ∨
  (A.kind = 3 ∧ n = 0 ∧ ((keepOk D.q A.k A.keep ∧ D' = D.crash A.k A.keep ∧ c = 0) ∨ (¬ keepOk D.q A.k A.keep ∧ D' = D ∧ c = 1))) ∨
  (A.kind = 4 ∧ n = 0 ∧ ((¬ (0 ≤ A.at' ∧ A.at' < D.n) ∧ D' = D ∧ c = 1) ∨ (0 ≤ A.at' ∧ A.at' < D.n ∧ D' = D.spoil A.at'.toNat ∧ c = 0))) ∨
  (A.kind = 5 ∧ n = 0 ∧ D' = D.die ∧ c = 0) ∨
  (A.kind = 6 ∧ n = 0 ∧ D' = Dsk.zero D.n ∧ c = 0) ∨
  (A.kind = 7 ∧ n = 0 ∧ ((A.at' < -1 ∧ D' = D ∧ c = 1) ∨ (-1 ≤ A.at' ∧ D.dead = true ∧ D' = D ∧ c = 7) ∨ (-1 ≤ A.at' ∧ D.dead = false ∧ D' = D.arm (decide (0 ≤ A.at')) (if 0 ≤ A.at' then A.at' else 0) ∧ c = 0))) ∨
  ((A.kind < 0 ∨ 7 < A.kind) ∧ n = 0 ∧ D' = D ∧ c = 0)

/-- What an act leaves. -/
def ActP (B g : Nat) (D : Dsk) (A : Deed) (w : World) (v : Value) (c : Int) (w' : World) : Prop :=
  ∃ D' n f gs gb qv, Does D A D' c n f ∧ BArg B w' v n f ∧ DiskIn B g gs gb qv D' w' ∧ Below B w w' ∧ Calm w w'
/-- What a method without bytes leaves. -/
def MethP (B g : Nat) (D : Dsk) (A : Deed) (w : World) (e : Ending) (w' : World) : Prop := ∃ c, e = .returned (.int .i64 c) ∧ ActP B g D A w (.slice none 0 0) c w'

theorem barg_nil (B : Nat) (w : World) : BArg B w (.slice none 0 0) 0 (fun _ => 0) := ⟨fun _ => z1, .inl ⟨rfl, _, _, rfl⟩⟩
theorem meth_of {B g gs gb : Nat} {qv : Value} {D D' : Dsk} {A : Deed} {c : Int} {w w' : World} {e : Ending} (h : Out1 B g gs gb qv c D' w e w') (hd : Does D A D' c 0 (fun _ => 0)) : MethP B g D A w e w' :=
  ⟨c, h.1, D', 0, fun _ => 0, gs, gb, qv, hd, barg_nil B w', h.2.1, h.2.2.1, h.2.2.2⟩
theorem DiskIn.le {B g gs gb : Nat} {qv : Value} {D : Dsk} {w : World} (h : DiskIn B g gs gb qv D w) : B ≤ w.heap.size := by
  have h1 := h.base.1
  have h2 := h.row.lt
  omega

section
variable {B g gs gb : Nat} {qv : Value} {D : Dsk} {bv kv : Value} {A : Deed}

theorem meth_write (w : World) (h : DiskIn B g gs gb qv D w) (hA : DeedAt B w bv kv A) (hk : A.kind = 1) :
    Calls Try.prog 18 #[.pointer (some ⟨g, 0, none⟩), .int .i64 A.at', bv] w (MethP B g D A w) := by
  obtain ⟨bx, bc, rfl, hm⟩ := hA.bytes.slice
  by_cases h1 : A.n % 64 = 0
  · obtain ⟨k, hn⟩ : ∃ k, A.n = k * 64 := ⟨A.n / 64, by omega⟩
    have hnk : A.n / 64 = k := by omega
    by_cases h2 : inD D A.at' (A.n / 64 : Nat)
    · obtain ⟨a1, a2, a3, a4⟩ := h2
      obtain ⟨a, ha⟩ : ∃ a : Nat, A.at' = a := ⟨A.at'.toNat, by omega⟩
      have hat : A.at'.toNat = a := by omega
      rcases bool_cases D.off with ho | ho
      · by_cases h3 : D.q + A.n / 64 ≤ 65536
        · have hb : BArg B w (.slice bx A.n bc) (k * 64) A.bytes := hn ▸ hA.bytes
          rw [ha]
          exact (Write_ok a k w h hb (by omega) ho (by omega)).mono fun e w' ⟨q2, hr⟩ => meth_of hr (.inr (.inl ⟨hk, rfl, .inr ⟨h1, ⟨a1, a2, a3, a4⟩, .inr (.inr ⟨ho, h3, by rw [hat, hnk], rfl⟩)⟩⟩))
        · rw [ha, hn]
          exact (Write_full a k bx bc w h (by omega) (by omega) ho (by omega)).mono fun e w' hr => meth_of hr (.inr (.inl ⟨hk, rfl, .inr ⟨h1, ⟨a1, a2, a3, a4⟩, .inr (.inl ⟨ho, h3, rfl, rfl⟩)⟩⟩))
      · rw [ha, hn]
        exact (Write_off a k bx bc w h (by omega) (by omega) ho).mono fun e w' hr => meth_of hr (.inr (.inl ⟨hk, rfl, .inr ⟨h1, ⟨a1, a2, a3, a4⟩, .inl ⟨ho, rfl, rfl⟩⟩⟩))
    · have h2' : ¬ (0 ≤ A.at' ∧ A.at' ≤ D.n ∧ (k : Int) ≤ D.n - A.at') := fun h9 => h2 ⟨h9.1, by omega, h9.2.1, by rw [hnk]; exact h9.2.2⟩
      rw [hn]
      exact (Write_arg A.at' k bx bc w h (by omega) h2').mono fun e w' hr => meth_of hr (.inr (.inl ⟨hk, rfl, .inl ⟨.inr h2, rfl, rfl⟩⟩))
  · exact (Write_len A.at' A.n bx bc w h hm h1).mono fun e w' hr => meth_of hr (.inr (.inl ⟨hk, rfl, .inl ⟨.inl h1, rfl, rfl⟩⟩))
theorem meth_sync (w : World) (h : DiskIn B g gs gb qv D w) (hk : A.kind = 2) :
    Calls Try.prog 22 #[.pointer (some ⟨g, 0, none⟩)] w (MethP B g D A w) := by
  rcases bool_cases D.off with ho | ho
  · exact (Sync_ok w h ho).mono fun e w' ⟨q2, hr⟩ => meth_of hr (.inr (.inr (.inl ⟨hk, rfl, .inr ⟨ho, rfl, rfl⟩⟩)))
  · exact (Sync_off w h ho).mono fun e w' hr => meth_of hr (.inr (.inr (.inl ⟨hk, rfl, .inl ⟨ho, rfl, rfl⟩⟩)))
theorem meth_crash (w : World) (h : DiskIn B g gs gb qv D w) (hA : DeedAt B w bv kv A) (hn : A.k ≤ 65536) (hk : A.kind = 3) :
    Calls Try.prog 23 #[.pointer (some ⟨g, 0, none⟩), kv] w (MethP B g D A w) :=
  (Crash_any w h hA.keep hn).mono fun _ _ hr => by
    rcases hr with ⟨h1, q2, hr⟩ | ⟨h1, hr⟩
    · exact meth_of hr (.inr (.inr (.inr (.inl ⟨hk, rfl, .inl ⟨h1, rfl, rfl⟩⟩))))
    · exact meth_of hr (.inr (.inr (.inr (.inl ⟨hk, rfl, .inr ⟨h1, rfl, rfl⟩⟩))))
theorem meth_spoil (w : World) (h : DiskIn B g gs gb qv D w) (hk : A.kind = 4) :
    Calls Try.prog 36 #[.pointer (some ⟨g, 0, none⟩), .int .i64 A.at'] w (MethP B g D A w) := by
  by_cases h1 : 0 ≤ A.at'
  · by_cases h2 : A.at' < D.n
    · obtain ⟨a, ha⟩ : ∃ a : Nat, A.at' = a := ⟨A.at'.toNat, by omega⟩
      have hat : A.at'.toNat = a := by omega
      rw [ha]
      exact (Spoil_ok a w h (by omega)).mono fun e w' hr => meth_of hr (.inr (.inr (.inr (.inr (.inl ⟨hk, rfl, .inr ⟨h1, h2, by rw [hat], rfl⟩⟩)))))
    · exact (Spoil_hi A.at' w h ⟨h1, by omega⟩).mono fun e w' hr => meth_of hr (.inr (.inr (.inr (.inr (.inl ⟨hk, rfl, .inl ⟨fun h9 => h2 h9.2, rfl, rfl⟩⟩)))))
  · exact (Spoil_lo A.at' w h (by omega)).mono fun e w' hr => meth_of hr (.inr (.inr (.inr (.inr (.inl ⟨hk, rfl, .inl ⟨fun h9 => h1 h9.1, rfl, rfl⟩⟩)))))
theorem meth_die (w : World) (h : DiskIn B g gs gb qv D w) (hk : A.kind = 5) :
    Calls Try.prog 46 #[.pointer (some ⟨g, 0, none⟩)] w (MethP B g D A w) :=
  (Die_any w h).mono fun _ _ hr => meth_of (gs := gs) (gb := gb) hr (.inr (.inr (.inr (.inr (.inr (.inl ⟨hk, rfl, rfl, rfl⟩))))))
theorem meth_replace (w : World) (h : DiskIn B g gs gb qv D w) (hk : A.kind = 6) :
    Calls Try.prog 47 #[.pointer (some ⟨g, 0, none⟩)] w (MethP B g D A w) :=
  (Replace_any w h).mono fun e w' ⟨he, gs2, gb2, hr⟩ => meth_of (gs := gs2) (gb := gb2) ⟨he, hr⟩ (.inr (.inr (.inr (.inr (.inr (.inr (.inl ⟨hk, rfl, rfl, rfl⟩)))))))
theorem meth_stop (w : World) (h : DiskIn B g gs gb qv D w) (hA : DeedAt B w bv kv A) (hk : A.kind = 7) :
    Calls Try.prog 19 #[.pointer (some ⟨g, 0, none⟩), .int .i64 A.at'] w (MethP B g D A w) := by
  by_cases h1 : A.at' < -1
  · exact (Stop_arg A.at' w h h1).mono fun e w' hr => meth_of hr (.inr (.inr (.inr (.inr (.inr (.inr (.inr (.inl ⟨hk, rfl, .inl ⟨h1, rfl, rfl⟩⟩))))))))
  · rcases bool_cases D.dead with hd | hd
    · exact (Stop_ok A.at' w h ⟨by omega, hA.at'.2⟩ hd).mono fun e w' hr => meth_of hr (.inr (.inr (.inr (.inr (.inr (.inr (.inr (.inl ⟨hk, rfl, .inr (.inr ⟨by omega, hd, rfl, rfl⟩)⟩))))))))
    · exact (Stop_dead A.at' w h (by omega) hd).mono fun e w' hr => meth_of hr (.inr (.inr (.inr (.inr (.inr (.inr (.inr (.inl ⟨hk, rfl, .inr (.inl ⟨by omega, hd, rfl, rfl⟩)⟩))))))))

theorem hasQ_some {a : Nat → Nat} {f : Nat → Nat → Int} {j k : Nat} {F : Nat → Int} (h : hasQ a f j k = some F) : ∃ i, F = f i := by
  induction k with
  | zero => cases h
  | succ k ih =>
    rw [hasQ] at h
    split at h
    · cases h; exact ⟨_, rfl⟩
    · exact ih h
theorem has_byte (ho : D.Ok) (j k : Nat) : 0 ≤ D.hasF j k ∧ D.hasF j k < 256 := by
  unfold Dsk.hasF Dsk.has
  rcases hq : hasQ D.qa D.qb j D.q with _ | f
  · rcases hb : D.bad j with _ | _
    · simpa using ho.byte j k
    · simp
  · obtain ⟨i, rfl⟩ := hasQ_some hq
    simpa using ho.pbyte i k
/-- What Read leaves, as an act. -/
def ReadM (B g : Nat) (D : Dsk) (A : Deed) (w : World) (e : Ending) (w' : World) : Prop := ∃ v c, e = .returned (.tuple #[v, .int .i64 c]) ∧ ActP B g D A w v c w'
theorem read_of {c : Int} {w w' : World} {e : Ending} (hB : B ≤ w.heap.size) (h : Read2 B g gs gb qv c D w e w') (hd : Does D A D c 0 (fun _ => 0)) : ReadM B g D A w e w' :=
  ⟨_, c, h.1, D, 0, fun _ => 0, gs, gb, qv, hd, barg_nil B w', h.2.1, h.2.2.mono hB, calm_below h.2.2⟩
theorem meth_read (w : World) (h : DiskIn B g gs gb qv D w) (hk : A.kind = 0) :
    Calls Try.prog 20 #[.pointer (some ⟨g, 0, none⟩), .int .i64 A.at', .int .i64 A.many] w (ReadM B g D A w) := by
  by_cases h2 : inD D A.at' A.many
  · rcases bool_cases D.off with ho | ho
    · obtain ⟨a1, a2, a3, a4⟩ := h2
      obtain ⟨a, ha⟩ : ∃ a : Nat, A.at' = a := ⟨A.at'.toNat, by omega⟩
      obtain ⟨m, hm⟩ : ∃ m : Nat, A.many = m := ⟨A.many.toNat, by omega⟩
      have hat : A.at'.toNat = a := by omega
      have hmt : A.many.toNat = m := by omega
      have hok := h.ok
      have hle := h.le
      rw [ha, hm]
      refine (Read_any a m w h (by omega) ho).mono fun e w' hr => ?_
      rcases hr with ⟨hn, hr⟩ | ⟨hn, v, rfl, hown, hd, hb⟩
      · exact read_of hle hr (.inl ⟨hk, rfl, .inr (.inr (.inl ⟨⟨a1, a2, a3, a4⟩, ho, by rw [hat, hmt]; exact hn, rfl, rfl⟩))⟩)
      · refine ⟨v, 0, rfl, D, m * 64, readI D a, gs, gb, qv, .inl ⟨hk, rfl, .inr (.inr (.inr ⟨⟨a1, a2, a3, a4⟩, ho, by rw [hat, hmt]; exact hn, rfl, by rw [hmt], by rw [hat]⟩))⟩, ?_, hd, hb.mono hle, calm_below hb⟩
        exact barg_own (B := B) (f := readI D a) hown fun k => has_byte hok _ _
    · exact (Read_off A.at' A.many w h h2 ho).mono fun e w' hr => read_of h.le hr (.inl ⟨hk, rfl, .inr (.inl ⟨h2, ho, rfl, rfl⟩)⟩)
  · exact (Read_arg A.at' A.many w h h2).mono fun e w' hr => read_of h.le hr (.inl ⟨hk, rfl, .inl ⟨h2, rfl, rfl⟩⟩)
end

theorem ActP.from' {B g : Nat} {D : Dsk} {A : Deed} {w W w' : World} {v : Value} {c : Int} (h : ActP B g D A W v c w') (hB : B ≤ w.heap.size) (hb : Below w.heap.size w W) : ActP B g D A w v c w' := by
  obtain ⟨D', n, f, gs, gb, qv, h1, h2, h3, h4, h5⟩ := h
  exact ⟨D', n, f, gs, gb, qv, h1, h2, h3, (hb.mono hB).trans h4, (calm_below hb).trans h5⟩

set_option maxHeartbeats 4000000 in
theorem act_any {B g gs gb : Nat} {qv : Value} {D : Dsk} {bv kv : Value} {A : Deed} (w : World) (h : DiskIn B g gs gb qv D w) (hA : DeedAt B w bv kv A) (hn : A.k ≤ 65536) :
    Calls Try.prog 24 #[.pointer (some ⟨g, 0, none⟩), deedV bv kv A] w (ReadM B g D A w) := by
  obtain ⟨bx, bc, rfl, -⟩ := hA.bytes.slice
  obtain ⟨kx, kc, rfl, -⟩ := hA.keep.slice
  have hr := row_five w (.int .i64 A.kind) (.int .i64 A.at') (.int .i64 A.many) (.slice bx A.n bc) (.slice kx A.k kc) 51
  obtain ⟨a0, a1, a2, a3, a4⟩ := cells5 hr
  have hbl := (Below.refl _ w).alloc (Nat.le_refl w.heap.size) (.cells #[.int .i64 A.kind, .int .i64 A.at', .int .i64 A.many, .slice bx A.n bc, .slice kx A.k kc] 51)
  have HB := Lib.hid hbl
  have HL := Lib.hid h.le
  have HD := Lib.hid (h.all hbl)
  have HA := Lib.hid (hA.all hbl)
  clear hr hbl h hA
  unfold deedV
  go_enter Try.func24, Try.ntmps24
  go_upto_region 1 with fail
  generalize w.alloc (.cells #[.int .i64 A.kind, .int .i64 A.at', .int .i64 A.many, .slice bx A.n bc, .slice kx A.k kc] 51) = W at *
  have hcase : A.kind = 0 ∨ A.kind = 1 ∨ A.kind = 2 ∨ A.kind = 3 ∨ A.kind = 4 ∨ A.kind = 5 ∨ A.kind = 6 ∨ A.kind = 7 ∨ (A.kind < 0 ∨ 7 < A.kind) := by omega
  rcases hcase with hc | hc | hc | hc | hc | hc | hc | hc | hc
  · have hk : A.kind = 0 := hc
    have hm := meth_read W HD.out hk
    rw [hk] at a0
    clear hc
    go_wp2_with fail
    refine hm.mono ?_
    rintro e w2 ⟨v, c, rfl, hp⟩
    go_wp2_with fail
    exact bodyPost_ret (v := .tuple #[v, .int .i64 c]) (by simp [results, Try.results24]) rfl ⟨v, c, rfl, hp.from' HL.out HB.out⟩
  · have hk : A.kind = 1 := hc
    have hm := meth_write W HD.out HA.out hk
    rw [hk] at a0
    clear hc
    go_wp2_with fail
    refine hm.mono ?_
    rintro e w2 ⟨c, rfl, hp⟩
    go_wp2_with fail
    exact bodyPost_ret (v := .tuple #[.slice none 0 0, .int .i64 c]) (by simp [results, Try.results24]) rfl ⟨_, c, rfl, hp.from' HL.out HB.out⟩
  · have hk : A.kind = 2 := hc
    have hm := meth_sync (A := A) W HD.out hk
    rw [hk] at a0
    clear hc
    go_wp2_with fail
    refine hm.mono ?_
    rintro e w2 ⟨c, rfl, hp⟩
    go_wp2_with fail
    exact bodyPost_ret (v := .tuple #[.slice none 0 0, .int .i64 c]) (by simp [results, Try.results24]) rfl ⟨_, c, rfl, hp.from' HL.out HB.out⟩
  · have hk : A.kind = 3 := hc
    have hm := meth_crash W HD.out HA.out hn hk
    rw [hk] at a0
    clear hc
    go_wp2_with fail
    refine hm.mono ?_
    rintro e w2 ⟨c, rfl, hp⟩
    go_wp2_with fail
    exact bodyPost_ret (v := .tuple #[.slice none 0 0, .int .i64 c]) (by simp [results, Try.results24]) rfl ⟨_, c, rfl, hp.from' HL.out HB.out⟩
  · have hk : A.kind = 4 := hc
    have hm := meth_spoil W HD.out hk
    rw [hk] at a0
    clear hc
    go_wp2_with fail
    refine hm.mono ?_
    rintro e w2 ⟨c, rfl, hp⟩
    go_wp2_with fail
    exact bodyPost_ret (v := .tuple #[.slice none 0 0, .int .i64 c]) (by simp [results, Try.results24]) rfl ⟨_, c, rfl, hp.from' HL.out HB.out⟩
  · have hk : A.kind = 5 := hc
    have hm := meth_die W HD.out hk
    rw [hk] at a0
    clear hc
    go_wp2_with fail
    refine hm.mono ?_
    rintro e w2 ⟨c, rfl, hp⟩
    go_wp2_with fail
    exact bodyPost_ret (v := .tuple #[.slice none 0 0, .int .i64 c]) (by simp [results, Try.results24]) rfl ⟨_, c, rfl, hp.from' HL.out HB.out⟩
  · have hk : A.kind = 6 := hc
    have hm := meth_replace W HD.out hk
    rw [hk] at a0
    clear hc
    go_wp2_with fail
    refine hm.mono ?_
    rintro e w2 ⟨c, rfl, hp⟩
    go_wp2_with fail
    exact bodyPost_ret (v := .tuple #[.slice none 0 0, .int .i64 c]) (by simp [results, Try.results24]) rfl ⟨_, c, rfl, hp.from' HL.out HB.out⟩
  · have hk : A.kind = 7 := hc
    have hm := meth_stop W HD.out HA.out hk
    rw [hk] at a0
    clear hc
    go_wp2_with fail
    refine hm.mono ?_
    rintro e w2 ⟨c, rfl, hp⟩
    go_wp2_with fail
    exact bodyPost_ret (v := .tuple #[.slice none 0 0, .int .i64 c]) (by simp [results, Try.results24]) rfl ⟨_, c, rfl, hp.from' HL.out HB.out⟩
  · have k0 : (A.kind == 0) = false := beq_eq_false_iff_ne.2 (by omega)
    have k1 : (A.kind == 1) = false := beq_eq_false_iff_ne.2 (by omega)
    have k2 : (A.kind == 2) = false := beq_eq_false_iff_ne.2 (by omega)
    have k3 : (A.kind == 3) = false := beq_eq_false_iff_ne.2 (by omega)
    have k4 : (A.kind == 4) = false := beq_eq_false_iff_ne.2 (by omega)
    have k5 : (A.kind == 5) = false := beq_eq_false_iff_ne.2 (by omega)
    have k6 : (A.kind == 6) = false := beq_eq_false_iff_ne.2 (by omega)
    have k7 : (A.kind == 7) = false := beq_eq_false_iff_ne.2 (by omega)
    have Hc := Lib.hid hc
    clear hc
    go_wp2_with fail
    exact bodyPost_ret (v := .tuple #[.slice none 0 0, .int .i64 0]) (by simp [results, Try.results24]) rfl
      ⟨_, 0, rfl, D, 0, fun _ => 0, gs, gb, qv, .inr (.inr (.inr (.inr (.inr (.inr (.inr (.inr ⟨Hc.out, rfl, rfl, rfl⟩))))))), barg_nil B W, HD.out, HB.out.mono HL.out, calm_below HB.out⟩

end Go.Proofs.Ytjhcaedfknhilaa
