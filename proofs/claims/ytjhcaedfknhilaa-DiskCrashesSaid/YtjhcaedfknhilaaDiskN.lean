/- Disk: iterators over the queue. -/
import Derived.Test.YtjhcaedfknhilaaDiskM
import Derived.Deep.WholeRow
namespace Go.Proofs.Ytjhcaedfknhilaa
open Go.RowKit
attribute [local go_sem ↓] Go.wp_at_zero Go.wp_at_succ
attribute [local go_sem] Oper.semAt_some
attribute [-go_sem] loadCellsFrom storeCells

theorem Values_any {x : Option Addr} {n c : Nat} (w : World) :
    Calls Try.prog 44 #[.slice x n c] w fun e w' => e = .returned (.func (.func 61) #[] #[.pointer (some ⟨w.heap.size, 0, none⟩)]) ∧ w.alloc (.cells #[.slice x n c] 74) = w' := by
  have hmf : ∀ (fn : Fn) (first cap : Array Value) (w : World), (Instr.makeFunc fn first cap).run Try.prog w = .ok (.func fn first cap) w := fun _ _ _ _ => rfl
  go_enter Try.func44, Try.ntmps44
  go_wp2
  go_ret
  exact ⟨rfl, rfl⟩
theorem Backward_any {x : Option Addr} {n c : Nat} (w : World) :
    Calls Try.prog 59 #[.slice x n c] w fun e w' => e = .returned (.func (.func 69) #[] #[.pointer (some ⟨w.heap.size, 0, none⟩)]) ∧ w.alloc (.cells #[.slice x n c] 74) = w' := by
  have hmf : ∀ (fn : Fn) (first cap : Array Value) (w : World), (Instr.makeFunc fn first cap).run Try.prog w = .ok (.func fn first cap) w := fun _ _ _ _ => rfl
  go_enter Try.func59, Try.ntmps59
  go_wp2
  go_ret
  exact ⟨rfl, rfl⟩
theorem kept_any {g : Addr} {x : Option Addr} {n c : Nat} (w : World) :
    Calls Try.prog 45 #[.pointer (some g), .slice x n c] w fun e w' => e = .returned (.func (.func 62) #[] #[.pointer (some ⟨w.heap.size + 1, 0, none⟩), .pointer (some ⟨w.heap.size, 0, none⟩)]) ∧ (w.alloc (.cells #[.pointer (some g)] 22)).alloc (.cells #[.slice x n c] 29) = w' := by
  have hmf : ∀ (fn : Fn) (first cap : Array Value) (w : World), (Instr.makeFunc fn first cap).run Try.prog w = .ok (.func fn first cap) w := fun _ _ _ _ => rfl
  go_enter Try.func45, Try.ntmps45
  go_wp2
  go_ret
  exact ⟨rfl, rfl⟩

theorem storeCells_one (a : Addr) (v : Value) (i : Nat) : storeCells a [v] i = store (a.add i) v := by
  simp [storeCells]

/-- An element of the queue, whole. -/
theorem under_put : ∃ fs, Try.prog.underlying 81 = some (.struct fs) := ⟨_, Try.underlying81⟩
theorem size_put : (Try.prog.info? 81).map (·.size) = some 65 := by kernel_rfl
theorem load_put {W : World} {g : Nat} {e : TypeId} {c n : Nat} {A : Nat → Nat} {F : Nat → Nat → Int} (h : RowAt W g e c (n * 65) (putV A F)) {i : Nat} (hi : i < n) :
    (Instr.loadAt 81 (.pointer (some ⟨g, i * 65, none⟩))).run Try.prog W = .ok (putA (A i) (F i)) W := by
  obtain ⟨h1, h2⟩ := putV_range h hi
  obtain ⟨fs, hu⟩ := under_put
  refine run_loadAt_mid W g (i * 65) _ (Value.int .i64 (A i) :: secL (F i)) _ ?_ hu rfl (by rw [List.length_cons, secL_len]; exact size_put)
  intro j v hj
  cases j with
  | zero => cases hj; exact h1
  | succ j =>
    rw [List.getElem?_cons_succ] at hj
    rw [show i * 65 + (j + 1) = i * 65 + 1 + j from by omega]
    exact h2 j v hj

theorem loadVar_run {P : Program} {w : World} {t : TypeId} {b o : Nat} {v : Value} (h : (Instr.loadAt t (.pointer (some ⟨b, o, none⟩))).run P w = .ok v w) : (loadVar t ⟨b, o, none⟩).run P w = .ok v w := by
  simpa only [Instr.loadAt, Instr.sureAddr, Sem.run_bind, Sem.run_pure, Result.andThen_ok] using h
theorem loadC_put {W : World} {g : Nat} {e : TypeId} {c n : Nat} {A : Nat → Nat} {F : Nat → Nat → Int} (h : RowAt W g e c (n * 65) (putV A F)) {i : Nat} (hi : i < n) :
    (loadCellsFrom ⟨g, i * 65, none⟩ 0 65 #[]).run Try.prog W = .ok (Value.int .i64 (A i) :: secL (F i)).toArray W := by
  obtain ⟨h1, h2⟩ := putV_range h hi
  have := run_loadCells_list (P := Try.prog) W ⟨g, i * 65, none⟩ (Value.int .i64 (A i) :: secL (F i)) (fun j v hv => by
    rw [Addr.add_mid]
    cases j with
    | zero => cases hv; exact h1
    | succ j =>
      rw [List.getElem?_cons_succ] at hv
      rw [show i * 65 + (j + 1) = i * 65 + 1 + j from by omega]
      exact h2 j v hv)
  rw [List.length_cons, secL_len] at this
  exact this

theorem info_put : (Try.prog.info? 81).map (·.size) = some 65 := size_put
theorem one_put (a : Nat) (f : Nat → Int) : ((Value.int .i64 a :: secL f).toArray).all (·.oneCell') = true := all_oneCell_toArray fun v hv => by
  rcases List.mem_cons.1 hv with rfl | hv
  · rfl
  · obtain ⟨j, _, rfl⟩ := List.mem_map.1 hv
    rfl
theorem put_size (a : Nat) (f : Nat → Int) : ((Value.int .i64 a :: secL f).toArray).size = 65 := by rw [List.size_toArray, List.length_cons, secL_len]
/-- A put stored into a box that was made last; and out of it again. -/
theorem storeC_put (w : World) (z : Array Value) (hz : z.size = 65) (a : Nat) (f : Nat → Int) :
    (storeCells ⟨w.heap.size, 0, none⟩ (Value.int .i64 a :: secL f) 0).run Try.prog (w.alloc (.cells z 81)) = .ok () (w.alloc (.cells (Value.int .i64 a :: secL f).toArray 81)) := by
  have := run_storeCells_new (P := Try.prog) w 81 z (Value.int .i64 a :: secL f).toArray (by rw [put_size]; exact size_put) (by rw [put_size, hz]) (one_put a f)
  simpa using this
theorem newC_put (w : World) (a : Nat) (f : Nat → Int) :
    (loadCellsFrom ⟨w.heap.size, 0, none⟩ 0 65 #[]).run Try.prog (w.alloc (.cells (Value.int .i64 a :: secL f).toArray 81)) = .ok (Value.int .i64 a :: secL f).toArray (w.alloc (.cells (Value.int .i64 a :: secL f).toArray 81)) :=
  run_loadCellsFrom_new w _ _ 65 (put_size a f)
theorem zero_put : Try.zeroCells81.size = 65 := by kernel_rfl

/-- What an iterator over the queue reads. -/
def QueRd (B0 b : Nat) (qv : Value) (q : Nat) (a : Nat → Nat) (f : Nat → Nat → Int) (W : World) : Prop := W.cell? ⟨b, 0, none⟩ = some qv ∧ Puts W B0 qv q a f

set_option maxRecDepth 8000 in
set_option maxHeartbeats 4000000 in
theorem values1_iter (N B0 b : Nat) (qv : Value) (q : Nat) (hq : q ≤ 65536) (a : Nat → Nat) (f : Nat → Nat → Int) :
    IterN Fence.wide N Try.prog 61 #[.pointer (some ⟨b, 0, none⟩)] (fun k => #[putA (a k) (f k)]) q (QueRd B0 b qv q a f) := by
  intro l J Jx W hRd hst hstx hY h0
  refine callsIn_of_wp Try.func61 rfl trivial ?_ rfl
  simp only [Try.ntmps61, List.size_toArray, List.length_cons, List.length_nil, Nat.reduceAdd, Nat.reduceSub, Array.replicate_succ, Array.replicate_zero, List.push_toArray, List.append_toArray, List.nil_append, List.cons_append]
  have HY := Lib.hid hY; clear hY
  have HR := Lib.hid hRd; clear hRd
  have Hst := Lib.hid hst
  clear hst hstx
  obtain ⟨z0, zq⟩ := HR.out 0 W h0
  obtain ⟨x, cap, rfl⟩ := zq.slice
  clear zq
  gi_wp2
  clear z0
  gi_loopw [7] (fun t wr => ∃ i : Nat, i ≤ q ∧ t = .int .i64 i ∧ J i wr) (fun t _ => q - (intOf t).toNat)
  case atStart => exact ⟨0, by omega, rfl, h0⟩
  case round =>
    obtain ⟨i, hi, rfl, hJ⟩ := hrel
    have HJ := Lib.hid hJ
    obtain ⟨z0, zq⟩ := HR.out _ wr hJ
    clear hJ
    by_cases hlt : i < q
    · rcases zq with ⟨_, hq0⟩ | ⟨g, cap', hv, hB, hrow, hcap⟩
      · omega
      cases hv
      have hl := loadC_put hrow hlt
      have hs := fun w => storeC_put w _ zero_put (a i) (f i)
      have hn := fun w => newC_put w (a i) (f i)
      have hlen := secL_len (f i)
      have hJ2 : J i (wr.alloc (.cells (Value.int .i64 (a i) :: secL (f i)).toArray 81)) := Hst.out _ _ _ HJ.out (World.grownBy_alloc _ _ none)
      obtain ⟨fn, tmps, assign, body, hy, hR⟩ := HY.out _ _ hJ2 hlt
      unfold putA at hy
      generalize secL (f i) = cs at *
      clear hrow z0 hJ2
      have hdlt : decide ((i : Int) < q) = true := decide_eq_true (by omega)
      gi_wp2
      refine ⟨fun h => by simp [Fence.wide] at h, hR.mono ?_⟩
      clear hl hs hn hlen hy hR
      rintro e W3 (⟨rfl, hJ3⟩ | ⟨rfl, hJx3⟩)
      · gi_wp2
        go_roundw
        case rel => exact ⟨i + 1, by omega, by go_num, hJ3⟩
        case measure => simp [intOf]; omega
      · gi_wp2
        refine bodyPost_ret (results_none rfl _ _ _) rfl ?_
        exact ⟨⟨_, rfl⟩, .inr ⟨_, hlt, hJx3⟩⟩
    · obtain rfl : i = q := by omega
      clear z0 zq
      gi_wp2
      go_end0
      exact ⟨⟨_, rfl⟩, .inl HJ.out⟩

set_option maxRecDepth 8000 in
set_option maxHeartbeats 4000000 in
theorem backward1_iter (N B0 b : Nat) (qv : Value) (q : Nat) (hq : q ≤ 65536) (a : Nat → Nat) (f : Nat → Nat → Int) :
    IterN Fence.wide N Try.prog 69 #[.pointer (some ⟨b, 0, none⟩)] (fun k => #[.int .i64 ((q - 1 - k : Nat) : Int), putA (a (q - 1 - k)) (f (q - 1 - k))]) q (QueRd B0 b qv q a f) := by
  intro l J Jx W hRd hst hstx hY h0
  refine callsIn_of_wp Try.func69 rfl trivial ?_ rfl
  simp only [Try.ntmps69, List.size_toArray, List.length_cons, List.length_nil, Nat.reduceAdd, Nat.reduceSub, Array.replicate_succ, Array.replicate_zero, List.push_toArray, List.append_toArray, List.nil_append, List.cons_append]
  have HY := Lib.hid hY; clear hY
  have HR := Lib.hid hRd; clear hRd
  clear hst hstx
  obtain ⟨z0, zq⟩ := HR.out 0 W h0
  obtain ⟨x, cap, rfl⟩ := zq.slice
  clear zq
  gi_wp2
  clear z0
  gi_loopw [3] (fun t wr => ∃ i : Nat, i ≤ q ∧ t = .int .i64 ((q : Int) - 1 - i) ∧ J i wr) (fun t _ => (intOf t + 1).toNat)
  case atStart => exact ⟨0, by omega, by go_num, h0⟩
  case round =>
    obtain ⟨i, hi, rfl, hJ⟩ := hrel
    have HJ := Lib.hid hJ
    obtain ⟨z0, zq⟩ := HR.out _ wr hJ
    by_cases hlt : i < q
    · rcases zq with ⟨_, hq0⟩ | ⟨g, cap', hv, hB, hrow, hcap⟩
      · omega
      cases hv
      have hl := loadC_put hrow (show q - 1 - i < q by omega)
      have hlen := secL_len (f (q - 1 - i))
      obtain ⟨fn, tmps, assign, body, hy, hR⟩ := HY.out _ _ hJ hlt
      obtain ⟨j, hj⟩ : ∃ j : Nat, q - 1 - i = j := ⟨_, rfl⟩
      rw [hj] at hy hl hlen
      have hji : (q : Int) - 1 - i = j := by omega
      rw [hji]
      unfold putA at hy
      generalize secL (f j) = cs at *
      clear hrow hJ
      have hjq : j < q := by omega
      gi_wp2
      refine ⟨fun h => by simp [Fence.wide] at h, hR.mono ?_⟩
      clear hl hlen hy hR
      rintro e W3 (⟨rfl, hJ3⟩ | ⟨rfl, hJx3⟩)
      · gi_wp2
        go_roundw
        case rel => exact ⟨i + 1, by omega, by simp; omega, hJ3⟩
        case measure => simp [intOf]
      · gi_wp2
        refine bodyPost_ret (results_none rfl _ _ _) rfl ?_
        exact ⟨⟨_, rfl⟩, .inr ⟨_, hlt, hJx3⟩⟩
    · obtain rfl : i = q := by omega
      clear z0 zq
      have hge : decide (0 ≤ (i : Int) - 1 - i) = false := decide_eq_false (by omega)
      gi_wp2
      go_end0
      exact ⟨⟨_, rfl⟩, .inl HJ.out⟩

/-- What the iterator of what a crash keeps reads. -/
def KeptRd (B0 kb db g : Nat) (kv qv : Value) (n : Nat) (kk : Nat → Nat) (q : Nat) (a : Nat → Nat) (f : Nat → Nat → Int) (W : World) : Prop :=
  W.cell? ⟨kb, 0, none⟩ = some kv ∧ W.cell? ⟨db, 0, none⟩ = some (.pointer (some ⟨g, 0, none⟩)) ∧ W.cell? ⟨g, 2, none⟩ = some qv ∧ IArg W kv n (fun i => kk i) ∧ Puts W B0 qv q a f

set_option maxRecDepth 8000 in
set_option maxHeartbeats 4000000 in
theorem kept1_iter (N B0 kb db g : Nat) (kv qv : Value) (n : Nat) (hn6 : n ≤ 65536) (kk : Nat → Nat) (q : Nat) (hk : ∀ i, i < n → kk i < q) (a : Nat → Nat) (f : Nat → Nat → Int) :
    IterN Fence.wide N Try.prog 62 #[.pointer (some ⟨kb, 0, none⟩), .pointer (some ⟨db, 0, none⟩)] (fun k => #[putA (a (kk k)) (f (kk k))]) n (KeptRd B0 kb db g kv qv n kk q a f) := by
  intro l J Jx W hRd hst hstx hY h0
  refine callsIn_of_wp Try.func62 rfl trivial ?_ rfl
  simp only [Try.ntmps62, List.size_toArray, List.length_cons, List.length_nil, Nat.reduceAdd, Nat.reduceSub, Array.replicate_succ, Array.replicate_zero, List.push_toArray, List.append_toArray, List.nil_append, List.cons_append]
  have HY := Lib.hid hY; clear hY
  have HR := Lib.hid hRd; clear hRd
  clear hst hstx
  obtain ⟨z0, z1, z2, zk, zq⟩ := HR.out 0 W h0
  obtain ⟨x, cap, rfl⟩ := zk.slice
  clear zq zk
  gi_wp2
  clear z0 z1 z2
  gi_loopw [8] (fun t wr => ∃ i : Nat, i ≤ n ∧ t = .int .i64 i ∧ J i wr) (fun t _ => n - (intOf t).toNat)
  case atStart => exact ⟨0, by omega, by go_num, h0⟩
  case round =>
    obtain ⟨i, hi, rfl, hJ⟩ := hrel
    have HJ := Lib.hid hJ
    obtain ⟨z0, z1, z2, zk, zq⟩ := HR.out _ wr hJ
    by_cases hlt : i < n
    · rcases zk with ⟨hn0, _⟩ | ⟨b, off, cap', hv, hn, hnc, hcm, hcells, _⟩
      · omega
      cases hv
      have hkq := hk i hlt
      rcases zq with ⟨_, hq0⟩ | ⟨gq, capq, rfl, hB, hrow, hcap⟩
      · omega
      have e0 : wr.cell? ⟨b, off + i, none⟩ = some (.int .i64 (kk i)) := hcells i hlt
      have hl := loadC_put hrow hkq
      have hlen := secL_len (f (kk i))
      obtain ⟨fn, tmps, assign, body, hy, hR⟩ := HY.out _ _ hJ hlt
      unfold putA at hy
      generalize secL (f (kk i)) = cs at *
      clear hrow hJ hcells
      generalize kk i = j at *
      have hdlt : decide ((i : Int) < n) = true := decide_eq_true (by omega)
      gi_wp2
      refine ⟨fun h => by simp [Fence.wide] at h, hR.mono ?_⟩
      clear hl hlen hy hR z0 z1 z2 e0
      rintro e W3 (⟨rfl, hJ3⟩ | ⟨rfl, hJx3⟩)
      · gi_wp2
        go_roundw
        case rel => exact ⟨i + 1, by omega, by go_num, hJ3⟩
        case measure => simp [intOf]; omega
      · gi_wp2
        refine bodyPost_ret (results_none rfl _ _ _) rfl ?_
        exact ⟨⟨_, rfl⟩, .inr ⟨_, hlt, hJx3⟩⟩
    · obtain rfl : i = n := by omega
      clear z0 z1 z2 zk zq
      gi_wp2
      go_end0
      exact ⟨⟨_, rfl⟩, .inl HJ.out⟩

end Go.Proofs.Ytjhcaedfknhilaa
