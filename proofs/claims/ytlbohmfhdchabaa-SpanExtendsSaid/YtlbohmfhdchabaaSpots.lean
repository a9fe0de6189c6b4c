/- Lists of spots (structs of two numbers): as rows of a call's own, as what is read; append. -/
import Derived.Test.YtlbohmfhdchabaaGen
namespace Go.Proofs.Ytlbohmfhdchabaa
open Go.RowKit

def spotV (f : Nat → Int × Int) (j : Nat) : Value := .int .i64 (if j % 2 = 0 then (f (j / 2)).1 else (f (j / 2)).2)

theorem spotV_even (f : Nat → Int × Int) (i : Nat) : spotV f (2 * i) = .int .i64 (f i).1 := by
  unfold spotV; rw [if_pos (by omega), show 2 * i / 2 = i from by omega]
theorem spotV_odd (f : Nat → Int × Int) (i : Nat) : spotV f (2 * i + 1) = .int .i64 (f i).2 := by
  unfold spotV; rw [if_neg (by omega), show (2 * i + 1) / 2 = i from by omega]

theorem info_spot : (Try.prog.info? 45).map (fun i => (i.zero, i.size, i.bytes)) = some (some (.agg #[.int .i64 0, .int .i64 0]), 2, 16) := by kernel_rfl

/-- nil, or a list of spots that lies in a row of the call's own, from block B on. -/
def Spots (w : World) (B : Nat) (v : Value) (n : Nat) (f : Nat → Int × Int) : Prop :=
  (v = .slice none 0 0 ∧ n = 0) ∨ ∃ g cap, v = .slice (some ⟨g, 0, none⟩) n cap ∧ B ≤ g ∧ RowAt w g 45 (cap * 2) (n * 2) (spotV f) ∧ n ≤ cap ∧ cap ≤ maxLen

theorem Spots.nil (w : World) (B : Nat) (f : Nat → Int × Int) : Spots w B (.slice none 0 0) 0 f := .inl ⟨rfl, rfl⟩

theorem Spots.row {w : World} {B : Nat} {v : Value} {n : Nat} {f : Nat → Int × Int} (h : Spots w B v n f) (hn : 0 < n) :
    ∃ g cap, v = .slice (some ⟨g, 0, none⟩) n cap ∧ B ≤ g ∧ RowAt w g 45 (cap * 2) (n * 2) (spotV f) ∧ n ≤ cap ∧ cap ≤ maxLen := by
  rcases h with ⟨_, h⟩ | h
  · omega
  · exact h

theorem Spots.slice {w : World} {B : Nat} {v : Value} {n : Nat} {f : Nat → Int × Int} (h : Spots w B v n f) : ∃ a cap, v = .slice a n cap := by
  rcases h with ⟨rfl, rfl⟩ | ⟨g, cap, rfl, _⟩
  · exact ⟨_, _, rfl⟩
  · exact ⟨_, _, rfl⟩

theorem Spots.mono {w : World} {B B' : Nat} {v : Value} {n : Nat} {f : Nat → Int × Int} (h : Spots w B v n f) (hB : B' ≤ B) : Spots w B' v n f := by
  rcases h with h | ⟨g, cap, hv, hb, rest⟩
  · exact .inl h
  · exact .inr ⟨g, cap, hv, by omega, rest⟩

theorem Spots.congr {w : World} {B : Nat} {v : Value} {n : Nat} {f f' : Nat → Int × Int} (h : Spots w B v n f) (hf : ∀ i, i < n → f i = f' i) : Spots w B v n f' := by
  rcases h with h | ⟨g, cap, hv, hb, hr, hm⟩
  · exact .inl h
  · exact .inr ⟨g, cap, hv, hb, hr.congr fun i hi => by unfold spotV; rw [hf (i / 2) (by omega)], hm⟩

theorem Spots.all {w w' : World} {B : Nat} {v : Value} {n : Nat} {f : Nat → Int × Int} (h : Spots w B v n f) (hb : Below w.heap.size w w') : Spots w' B v n f := by
  rcases h with h | ⟨g, cap, hv, hB, hr, hm⟩
  · exact .inl h
  · exact .inr ⟨g, cap, hv, hB, hr.all hb, hm⟩

theorem Spots.drewN {w : World} {B : Nat} {v : Value} {n : Nat} {f : Nat → Int × Int} (h : Spots w B v n f) (k : Nat) : Spots (w.drewN k) B v n f := by
  rcases h with h | ⟨g, cap, hv, hB, hr, hm⟩
  · exact .inl h
  · exact .inr ⟨g, cap, hv, hB, hr.drewN k, hm⟩

/-- What a slice of spots shows. -/
def SpotsAt (w : World) (v : Value) (n : Nat) (f : Nat → Int × Int) : Prop := (n = 0 ∧ ∃ a cap, v = .slice a 0 cap) ∨ ∃ b off cap, v = .slice (some ⟨b, off, none⟩) n cap ∧ 0 < n ∧ Cells w b off (n * 2) (spotV f)

theorem Spots.at {w : World} {B : Nat} {v : Value} {n : Nat} {f : Nat → Int × Int} (h : Spots w B v n f) : SpotsAt w v n f := by
  by_cases hn : 0 < n
  · obtain ⟨g, cap, hv, _, hr, _, _⟩ := h.row hn
    exact .inr ⟨g, 0, cap, hv, hn, hr.reads⟩
  · obtain rfl : n = 0 := by omega
    exact .inl ⟨rfl, h.slice⟩

theorem SpotsAt.slice {w : World} {v : Value} {n : Nat} {f : Nat → Int × Int} (h : SpotsAt w v n f) : ∃ a cap, v = .slice a n cap := by
  rcases h with ⟨rfl, a, cap, rfl⟩ | ⟨b, off, cap, rfl, _⟩
  · exact ⟨_, _, rfl⟩
  · exact ⟨_, _, rfl⟩

theorem SpotsAt.all {w w' : World} {v : Value} {n : Nat} {f : Nat → Int × Int} (h : SpotsAt w v n f) (hb : Below w.heap.size w w') : SpotsAt w' v n f := by
  rcases h with h | ⟨b, off, cap, hv, hn, hc⟩
  · exact .inl h
  · exact .inr ⟨b, off, cap, hv, hn, hc.all hb⟩

/-- The two cells of the i-th spot. -/
theorem cells_spot {w : World} {b off n : Nat} {f : Nat → Int × Int} (h : Cells w b off (n * 2) (spotV f)) {i : Nat} (hi : i < n) :
    w.cell? ⟨b, off + i * 2, none⟩ = some (.int .i64 (f i).1) ∧ w.cell? ⟨b, off + i * 2 + 1, none⟩ = some (.int .i64 (f i).2) := by
  have h1 := h (2 * i) (by omega)
  have h2 := h (2 * i + 1) (by omega)
  rw [spotV_even] at h1
  rw [spotV_odd] at h2
  rw [show off + i * 2 = off + 2 * i from by omega]
  exact ⟨h1, by rw [Nat.add_assoc]; exact h2⟩

theorem Spots.owns {w : World} {B : Nat} {v : Value} {n : Nat} {f : Nat → Int × Int} (h : Spots w B v n f) : w.ownsRow B 45 2 v n ((List.range (n * 2)).map (spotV f)) := by
  rcases h with ⟨rfl, rfl⟩ | ⟨g, cap, rfl, hB, ⟨cur, hg, hs, hn, hc⟩, hle, hm⟩
  · exact World.ownsRow_nil w B _ 2
  · refine ⟨by simp, .inr ⟨g, cap, cur, rfl, hB, hg, hle, hm, by omega, ?_⟩⟩
    refine List.ext_getElem? fun i => ?_
    rw [List.getElem?_take]
    by_cases hi : i < n * 2
    · rw [if_pos (by omega), Array.getElem?_toList, hc i hi]; simp [hi]
    · rw [if_neg (by omega)]; exact (List.getElem?_eq_none (by simp; omega)).symm

theorem spots_of_owns {w : World} {B : Nat} {v : Value} {n : Nat} {xs : List Value} {f : Nat → Int × Int} (h : w.ownsRow B 45 2 v n xs) (hf : ∀ i, i < n * 2 → xs[i]? = some (spotV f i)) : Spots w B v n f := by
  rcases h.2 with ⟨rfl, rfl⟩ | ⟨g, cap, cur, rfl, hB, hg, hn, hm, hs, ht⟩
  · exact .inl ⟨rfl, rfl⟩
  · refine .inr ⟨g, cap, rfl, hB, ⟨cur, hg, by omega, by omega, fun i hi => ?_⟩, hn, hm⟩
    rw [← hf i hi, ← ht, List.getElem?_take, if_pos (by omega), Array.getElem?_toList]

theorem spotV_app (f h : Nat → Int × Int) (n i : Nat) : (if i < n * 2 then spotV f i else spotV h (i - n * 2)) = spotV (fun i => if i < n then f i else h (i - n)) i := by
  unfold spotV
  dsimp only
  by_cases hi : i < n * 2
  · rw [if_pos hi, if_pos (show i / 2 < n from by omega)]
  · rw [if_neg hi, if_neg (show ¬ i / 2 < n from by omega), show (i - n * 2) % 2 = i % 2 from by omega, show (i - n * 2) / 2 = i / 2 - n from by omega]

/-- append of m spots that a slice reads, to a list of the call's own. -/
theorem append_sp {w : World} {o : Oper} {a : Act} (s x : Operand)
    (hop : o.op = .call { callee := .builtin .append, args := #[s, x], argTypes := #[31, 31] })
    (B : Nat) (v : Value) (n : Nat) (f : Nat → Int × Int) (hs : a.eval s = v) (hown : Spots w B v n f)
    (b off m c : Nat) (h : Nat → Int × Int) (hx : a.eval x = .slice (some ⟨b, off, none⟩) m c) (hc : Cells w b off (m * 2) (spotV h))
    (hm : n + m ≤ 1000000000) (hB : B ≤ w.heap.size) :
    ∃ v' w', (execOp a.eval o).run Try.prog w = .ok (.value v') w' ∧ Spots w' B v' (n + m) (fun i => if i < n then f i else h (i - n)) ∧ w.grownBy w' v.ownBlock := by
  obtain ⟨i0, hi, hz0, hz1, hz2⟩ := info_parts info_spot
  obtain ⟨v', w', hr, h2, h3, h4, h5⟩ := run_append_own_at (P := Try.prog) w B 31 o.type 45 i0 _ 2 16 Try.underlying31 hi hz0 hz1 hz2 rfl (by decide) v n _ hown.owns ⟨b, off, none⟩ m c ((List.range (m * 2)).map (spotV h)) (by simp)
    (fun j u hj => by
      have hjm : j < m * 2 := by
        rcases Nat.lt_or_ge j (m * 2) with h | h
        · exact h
        · rw [List.getElem?_eq_none (by simpa using h)] at hj; cases hj
      have hadd : (⟨b, off, none⟩ : Addr).add j = ⟨b, off + j, none⟩ := by unfold Addr.add; split <;> simp_all
      rw [hadd, hc j hjm, ← hj]; simp [hjm])
    (fun u hu => by
      obtain ⟨i, hi, rfl⟩ := List.mem_map.1 hu
      rfl) (by simp only [maxLen]; omega) (by omega) hB
  refine ⟨v', w', ?_, spots_of_owns h2 (fun i hi => ?_), h3⟩
  · unfold execOp
    simp only [hop, resolve, invoke, builtin, Sem.run_bind, Sem.run_pure, Result.andThen_ok, List.map_toArray, List.map_cons, List.map_nil, hs, hx, hr]
  · rw [← spotV_app, List.getElem?_append]
    simp only [List.length_map, List.length_range]
    by_cases hin : i < n * 2
    · simp [hin]
    · simp only [if_neg hin]
      rw [List.getElem?_map, List.getElem?_range (by omega)]; rfl

theorem wpList_append_sp {ops : Array Oper} {rest : List Oper} {w : World} {o : Oper} {a : Act} {Q : Exit → Act → World → Prop} (hg : o.guard = none) (s x : Operand)
    (hop : o.op = .call { callee := .builtin .append, args := #[s, x], argTypes := #[31, 31] })
    (B : Nat) (v : Value) (n : Nat) (f : Nat → Int × Int) (hs : a.eval s = v) (hown : Spots w B v n f)
    (b off m c : Nat) (h : Nat → Int × Int) (hx : a.eval x = .slice (some ⟨b, off, none⟩) m c) (hc : Cells w b off (m * 2) (spotV h))
    (hm : n + m ≤ 1000000000) (hB : B ≤ w.heap.size)
    (hK : ∀ v' w', Spots w' B v' (n + m) (fun i => if i < n then f i else h (i - n)) → w.grownBy w' v.ownBlock → wpList Try.prog ops Q rest (a.put o.dst v') w') : wpList Try.prog ops Q (o :: rest) a w := by
  obtain ⟨v', w', hr, h2, h3⟩ := append_sp s x hop B v n f hs hown b off m c h hx hc hm hB
  exact wpList_val hg hr (hK v' w' h2 h3)

theorem wpListIn_append_sp {F : Fence} {N : Nat} {ops : Array Oper} {rest : List Oper} {w : World} {o : Oper} {a : Act} {Q : Exit → Act → World → Prop} (hg : o.guard = none) (s x : Operand)
    (hop : o.op = .call { callee := .builtin .append, args := #[s, x], argTypes := #[31, 31] })
    (B : Nat) (v : Value) (n : Nat) (f : Nat → Int × Int) (hs : a.eval s = v) (hown : Spots w B v n f)
    (b off m c : Nat) (h : Nat → Int × Int) (hx : a.eval x = .slice (some ⟨b, off, none⟩) m c) (hc : Cells w b off (m * 2) (spotV h))
    (hm : n + m ≤ 1000000000) (hB : B ≤ w.heap.size)
    (hK : ∀ v' w', Spots w' B v' (n + m) (fun i => if i < n then f i else h (i - n)) → w.grownBy w' v.ownBlock → wpListIn F N Try.prog ops Q rest (a.put o.dst v') w') : wpListIn F N Try.prog ops Q (o :: rest) a w := by
  obtain ⟨v', w', hr, h2, h3⟩ := append_sp s x hop B v n f hs hown b off m c h hx hc hm hB
  exact wpListIn_val hg (by simp [Oper.about, hop, resolve, Target.leads, Sem.run_pure]) (by rw [hop]; intro c hc'; cases hc') hr (hK v' w' h2 h3)

/-- What was there below B stays, whatever is appended to a list from B on. -/
theorem Spots.ne {W : World} {B : Nat} {v : Value} {m : Nat} {f : Nat → Int × Int} (h : Spots W B v m f) {k : Nat} (hk : k < B) : v.ownBlock ≠ some k := by
  intro e
  rcases h with ⟨rfl, _⟩ | ⟨g, cap, rfl, hB, _⟩
  · cases e
  · have : g = k := by cases e; rfl
    omega
theorem Spots.below {w0 w w' : World} {B : Nat} {v : Value} {m : Nat} {f : Nat → Int × Int} (h : Spots w B v m f) (hb : Below B w0 w) (hB : B ≤ w.heap.size) (hg : w.grownBy w' v.ownBlock) : Below B w0 w' :=
  hb.grown hg hB (fun k hk => by
    rcases h with ⟨rfl, _⟩ | ⟨g, cap, rfl, hB', _⟩
    · cases hk
    · cases hk; exact hB')

/-- Lists of one and of two spots. -/
theorem spots1 (w : World) (a b : Int) : Spots (w.alloc (.cells #[.int .i64 a, .int .i64 b] 45)) w.heap.size (.slice (some ⟨w.heap.size, 0, none⟩) 1 1) 1 (fun _ => (a, b)) :=
  .inr ⟨_, 1, rfl, Nat.le_refl _, RowAt.new w #[.int .i64 a, .int .i64 b] 45 (spotV fun _ => (a, b)) 2 (by simp) (fun i hi => by rcases i with _ | _ | i <;> first | rfl | omega), by omega, by decide⟩
theorem spots2 (w : World) (a b c d : Int) : Spots (w.alloc (.cells #[.int .i64 a, .int .i64 b, .int .i64 c, .int .i64 d] 45)) w.heap.size (.slice (some ⟨w.heap.size, 0, none⟩) 2 2) 2 (fun i => if i = 0 then (a, b) else (c, d)) :=
  .inr ⟨_, 2, rfl, Nat.le_refl _, RowAt.new w #[.int .i64 a, .int .i64 b, .int .i64 c, .int .i64 d] 45 (spotV fun i => if i = 0 then (a, b) else (c, d)) 4 (by simp) (fun i hi => by rcases i with _ | _ | _ | _ | i <;> first | rfl | omega), by omega, by decide⟩

theorem cells1 (w : World) (a b : Int) : Cells (w.alloc (.cells #[.int .i64 a, .int .i64 b] 45)) w.heap.size 0 (1 * 2) (spotV fun _ => (a, b)) :=
  (RowAt.new w #[.int .i64 a, .int .i64 b] 45 (spotV fun _ => (a, b)) 2 (by simp) (fun i hi => by rcases i with _ | _ | i <;> first | rfl | omega)).reads

theorem Spots.alloc {w : World} {B : Nat} {v : Value} {n : Nat} {f : Nat → Int × Int} (h : Spots w B v n f) (o : Obj) : Spots (w.alloc o) B v n f :=
  h.all ((Below.refl _ _).alloc (Nat.le_refl _) _)

/-- One spot more. -/
theorem Spots.snoc {w : World} {B : Nat} {v : Value} {n : Nat} {f : Nat → Int × Int} {s : Int × Int} (h : Spots w B v (n + 1) (fun i => if i < n then f i else (fun _ => s) (i - n))) (hs : s = f n) : Spots w B v (n + 1) f :=
  h.congr fun i hi => by
    dsimp only
    by_cases hin : i < n
    · rw [if_pos hin]
    · obtain rfl : i = n := by omega
      rw [if_neg hin, hs]

end Go.Proofs.Ytlbohmfhdchabaa
