/- Lists of elements of several cells, in rows of a call's own: append. No program in sight. Disk: Write. -/
import Derived.Deep.RegionLaw
import Derived.Test.YtjhcaedfknhilaaRc2
import Derived.Test.YtjhcaedfknhilaaRc8
namespace Go.Proofs.Ytjhcaedfknhilaa
set_option linter.unusedVariables false
set_option linter.unusedSimpArgs false
open Go.RowKit

/-- nil, or a list of n elements of k cells that lies in a row of the call's own, from block B on. -/
def OwnK (w : World) (B : Nat) (e : TypeId) (k : Nat) (v : Value) (n : Nat) (f : Nat → Value) : Prop :=
  (v = .slice none 0 0 ∧ n = 0) ∨ ∃ g cap, v = .slice (some ⟨g, 0, none⟩) n cap ∧ B ≤ g ∧ RowAt w g e (cap * k) (n * k) f ∧ n ≤ cap ∧ cap ≤ maxLen

theorem OwnK.slice {w : World} {B : Nat} {e : TypeId} {k : Nat} {v : Value} {n : Nat} {f : Nat → Value} (h : OwnK w B e k v n f) : ∃ a cap, v = .slice a n cap := by
  rcases h with ⟨rfl, rfl⟩ | ⟨g, cap, rfl, _⟩
  · exact ⟨_, _, rfl⟩
  · exact ⟨_, _, rfl⟩
theorem OwnK.mono {w : World} {B B' : Nat} {e : TypeId} {k : Nat} {v : Value} {n : Nat} {f : Nat → Value} (h : OwnK w B e k v n f) (hB : B' ≤ B) : OwnK w B' e k v n f := by
  rcases h with h | ⟨g, cap, hv, hb, rest⟩
  · exact .inl h
  · exact .inr ⟨g, cap, hv, by omega, rest⟩
theorem OwnK.congr {w : World} {B : Nat} {e : TypeId} {k : Nat} {v : Value} {n : Nat} {f f' : Nat → Value} (h : OwnK w B e k v n f) (hf : ∀ i, i < n * k → f i = f' i) : OwnK w B e k v n f' := by
  rcases h with h | ⟨g, cap, hv, hb, hr, hm⟩
  · exact .inl h
  · exact .inr ⟨g, cap, hv, hb, hr.congr hf, hm⟩
theorem OwnK.all {w w' : World} {B : Nat} {e : TypeId} {k : Nat} {v : Value} {n : Nat} {f : Nat → Value} (h : OwnK w B e k v n f) (hb : Below w.heap.size w w') : OwnK w' B e k v n f := by
  rcases h with h | ⟨g, cap, hv, hB, hr, hm⟩
  · exact .inl h
  · exact .inr ⟨g, cap, hv, hB, hr.all hb, hm⟩
theorem OwnK.setOther {w : World} {B : Nat} {e : TypeId} {k : Nat} {v : Value} {n : Nat} {f : Nat → Value} (h : OwnK w B e k v n f) (a : Addr) (u : Value) (ha : a.block < B) : OwnK (w.setCell a u) B e k v n f := by
  rcases h with h | ⟨g, cap, hv, hB, hr, hm⟩
  · exact .inl h
  · exact .inr ⟨g, cap, hv, hB, hr.setOther a u (by omega), hm⟩
theorem OwnK.isCells {W : World} {B : Nat} {e : TypeId} {k : Nat} {v : Value} {m : Nat} {f : Nat → Value} (h : OwnK W B e k v m f) : ∀ r, v.ownBlock = some r → B ≤ r ∧ ∃ o : Obj, W.heap[r]? = some o ∧ o.isCells = true := by
  intro r hr
  rcases h with ⟨rfl, _⟩ | ⟨g, cap, rfl, hB, ⟨cur, hc, _⟩, _⟩
  · cases hr
  · cases hr; exact ⟨hB, _, hc, rfl⟩
/-- The block of such a list is of this type. -/
theorem OwnK.typed {W : World} {B : Nat} {e : TypeId} {k : Nat} {v : Value} {m : Nat} {f : Nat → Value} (h : OwnK W B e k v m f) {r : Nat} (hr : v.ownBlock = some r) {e' : TypeId} {c n : Nat} {F : Nat → Value} (h' : RowAt W r e' c n F) : e = e' := by
  rcases h with ⟨rfl, _⟩ | ⟨g, cap, rfl, hB, ⟨cur, hc, _⟩, _⟩
  · cases hr
  · cases hr
    obtain ⟨cur', hc', _⟩ := h'
    rw [hc] at hc'
    injection hc' with hx
    injection hx

theorem OwnK.owns {w : World} {B : Nat} {e : TypeId} {k : Nat} {v : Value} {n : Nat} {f : Nat → Value} (h : OwnK w B e k v n f) : w.ownsRow B e k v n ((List.range (n * k)).map f) := by
  rcases h with ⟨rfl, rfl⟩ | ⟨g, cap, rfl, hB, ⟨cur, hg, hs, hn, hc⟩, hle, hm⟩
  · rw [Nat.zero_mul]; exact World.ownsRow_nil w B _ k
  · refine ⟨by simp, .inr ⟨g, cap, cur, rfl, hB, hg, hle, hm, by omega, ?_⟩⟩
    refine List.ext_getElem? fun i => ?_
    rw [List.getElem?_take]
    by_cases hi : i < n * k
    · rw [if_pos (by omega), Array.getElem?_toList, hc i hi]; simp [hi]
    · rw [if_neg (by omega)]; exact (List.getElem?_eq_none (by simp; omega)).symm

theorem ownK_of_owns {w : World} {B : Nat} {e : TypeId} {k : Nat} {v : Value} {n : Nat} {xs : List Value} {f : Nat → Value} (h : w.ownsRow B e k v n xs) (hf : ∀ i, i < n * k → xs[i]? = some (f i)) : OwnK w B e k v n f := by
  rcases h.2 with ⟨rfl, rfl⟩ | ⟨g, cap, cur, rfl, hB, hg, hn, hm, hs, ht⟩
  · exact .inl ⟨rfl, rfl⟩
  · have hle : n * k ≤ cap * k := Nat.mul_le_mul_right k hn
    refine .inr ⟨g, cap, rfl, hB, ⟨cur, hg, by omega, hle, fun i hi => ?_⟩, hn, hm⟩
    rw [← hf i hi, ← ht, List.getElem?_take, if_pos (by omega), Array.getElem?_toList]

/-- append of m elements that a slice reads, to a list of the call's own. -/
theorem append_k {P : Program} {w : World} {o : Oper} {a : Act} (s x : Operand) (t e : TypeId) (z : Value) (k bytes : Nat)
    (hop : o.op = .call { callee := .builtin .append, args := #[s, x], argTypes := #[t, t] }) (ht : P.underlying t = some (.slice e))
    (hinfo : (P.info? e).map (fun i => (i.zero, i.size, i.bytes)) = some (some z, k, bytes)) (hz : z.cells.size = k) (hk : 0 < k)
    (B : Nat) (v : Value) (n : Nat) (f : Nat → Value) (hs : a.eval s = v) (hown : OwnK w B e k v n f)
    (b off m c : Nat) (h : Nat → Value) (hx : a.eval x = .slice (some ⟨b, off, none⟩) m c) (hc : Cells w b off (m * k) h) (h1 : ∀ i, i < m * k → (h i).oneCell' = true)
    (hm : n + m ≤ 1000000000) (hby : bytes ≤ 1000) (hB : B ≤ w.heap.size) :
    ∃ v' w', (execOp a.eval o).run P w = .ok (.value v') w' ∧ OwnK w' B e k v' (n + m) (fun i => if i < n * k then f i else h (i - n * k)) ∧ w.grownBy w' v.ownBlock := by
  obtain ⟨i0, hi, hz0, hz1, hz2⟩ := info_parts hinfo
  have hbytes : (n + m) * bytes ≤ 140737488355328 := by
    have h1 : (n + m) * bytes ≤ 1000000000 * 1000 := Nat.mul_le_mul hm hby
    omega
  obtain ⟨v', w', hr, h2, h3, h4, h5⟩ := run_append_own_at (P := P) w B t o.type e i0 z k bytes ht hi hz0 hz1 hz2 hz hk v n _ hown.owns ⟨b, off, none⟩ m c ((List.range (m * k)).map h) (by simp)
    (fun j u hj => by
      have hjm : j < m * k := by
        rcases Nat.lt_or_ge j (m * k) with h | h
        · exact h
        · rw [List.getElem?_eq_none (by simpa using h)] at hj; cases hj
      have hadd : (⟨b, off, none⟩ : Addr).add j = ⟨b, off + j, none⟩ := by unfold Addr.add; split <;> simp_all
      rw [hadd, hc j hjm, ← hj]; simp [hjm])
    (fun u hu => by
      obtain ⟨i, hi, rfl⟩ := List.mem_map.1 hu
      exact h1 i (by simpa using hi)) (by simp only [maxLen]; omega) hbytes hB
  refine ⟨v', w', ?_, ownK_of_owns h2 (fun i hi => ?_), h3⟩
  · unfold execOp
    simp only [hop, resolve, invoke, builtin, Sem.run_bind, Sem.run_pure, Result.andThen_ok, List.map_toArray, List.map_cons, List.map_nil, hs, hx, hr]
  · rw [List.getElem?_append]
    simp only [List.length_map, List.length_range]
    rw [Nat.add_mul] at hi
    by_cases hin : i < n * k
    · simp [hin]
    · simp only [if_neg hin]
      rw [List.getElem?_map, List.getElem?_range (by omega)]; rfl

theorem wpList_append_k {P : Program} {ops : Array Oper} {rest : List Oper} {o : Oper} {a : Act} {w : World} {Q : Exit → Act → World → Prop} (hg : o.guard = none) (s x : Operand) (t e : TypeId) (z : Value) (k bytes : Nat)
    (hop : o.op = .call { callee := .builtin .append, args := #[s, x], argTypes := #[t, t] }) (ht : P.underlying t = some (.slice e))
    (hinfo : (P.info? e).map (fun i => (i.zero, i.size, i.bytes)) = some (some z, k, bytes)) (hz : z.cells.size = k) (hk : 0 < k)
    (B : Nat) (v : Value) (n : Nat) (f : Nat → Value) (hs : a.eval s = v) (hown : OwnK w B e k v n f)
    (b off m c : Nat) (h : Nat → Value) (hx : a.eval x = .slice (some ⟨b, off, none⟩) m c) (hc : Cells w b off (m * k) h) (h1 : ∀ i, i < m * k → (h i).oneCell' = true)
    (hm : n + m ≤ 1000000000) (hby : bytes ≤ 1000) (hB : B ≤ w.heap.size)
    (hK : ∀ v' w', OwnK w' B e k v' (n + m) (fun i => if i < n * k then f i else h (i - n * k)) → w.grownBy w' v.ownBlock → wpList P ops Q rest (a.put o.dst v') w') : wpList P ops Q (o :: rest) a w := by
  obtain ⟨v', w', hr, h2, h3⟩ := append_k s x t e z k bytes hop ht hinfo hz hk B v n f hs hown b off m c h hx hc h1 hm hby hB
  exact wpList_val hg hr (hK v' w' h2 h3)

theorem step_append_k {P : Program} {w : World} {ops : Array Oper} {o : Oper} {a : Act} {K : Act → World → Prop} {Q : Exit → Act → World → Prop} {E : Prop} (hgd : o.guard = none) (s x : Operand) (t e : TypeId) (z : Value) (k bytes : Nat)
    (hop : o.op = .call { callee := .builtin .append, args := #[s, x], argTypes := #[t, t] }) (ht : P.underlying t = some (.slice e))
    (hinfo : (P.info? e).map (fun i => (i.zero, i.size, i.bytes)) = some (some z, k, bytes)) (hz : z.cells.size = k) (hk : 0 < k)
    (B : Nat) (v : Value) (n : Nat) (f : Nat → Value) (hs : a.eval s = v) (hown : OwnK w B e k v n f)
    (b off m c : Nat) (h : Nat → Value) (hx : a.eval x = .slice (some ⟨b, off, none⟩) m c) (hc : Cells w b off (m * k) h) (h1 : ∀ i, i < m * k → (h i).oneCell' = true)
    (hm : n + m ≤ 1000000000) (hby : bytes ≤ 1000) (hB : B ≤ w.heap.size)
    (hK : ∀ v' w', OwnK w' B e k v' (n + m) (fun i => if i < n * k then f i else h (i - n * k)) → w.grownBy w' v.ownBlock → K (a.put o.dst v') w') :
    if Region.wanted o (yielded ops a.tmps) = true then Oper.wp P o a w K Q else E := by
  rw [if_pos (by simp [Region.wanted, hgd])]
  obtain ⟨v', w', hr, h2, h3⟩ := append_k s x t e z k bytes hop ht hinfo hz hk B v n f hs hown b off m c h hx hc h1 hm hby hB
  unfold Oper.wp
  rw [hr]
  exact hK v' w' h2 h3

theorem step_append_o {P : Program} {w : World} {ops : Array Oper} {o : Oper} {a : Act} {K : Act → World → Prop} {Q : Exit → Act → World → Prop} {E : Prop} (hgd : o.guard = none) (s x : Operand) (t e : TypeId) (z : Value) (bytes : Nat)
    (hop : o.op = .call { callee := .builtin .append, args := #[s, x], argTypes := #[t, t] }) (ht : P.underlying t = some (.slice e))
    (hinfo : (P.info? e).map (fun i => (i.zero, i.size, i.bytes)) = some (some z, 1, bytes)) (hz : z.cells.size = 1)
    (B : Nat) (v : Value) (n : Nat) (f : Nat → Value) (hs : a.eval s = v) (hown : Own w B e v n f)
    (b off m c : Nat) (h : Nat → Value) (hx : a.eval x = .slice (some ⟨b, off, none⟩) m c) (hc : Cells w b off m h) (h1 : ∀ i, i < m → (h i).oneCell' = true)
    (hm : n + m ≤ 1000000000) (hby : bytes ≤ 1000) (hB : B ≤ w.heap.size)
    (hK : ∀ v' w', Own w' B e v' (n + m) (fun i => if i < n then f i else h (i - n)) → w.grownBy w' v.ownBlock → K (a.put o.dst v') w') :
    if Region.wanted o (yielded ops a.tmps) = true then Oper.wp P o a w K Q else E := by
  rw [if_pos (by simp [Region.wanted, hgd])]
  obtain ⟨v', w', hr, h2, h3, _, _⟩ := append_o s x t e z bytes hop ht hinfo hz B v n f hs hown b off m c h hx hc h1 hm hby hB
  unfold Oper.wp
  rw [hr]
  exact hK v' w' h2 h3

/-- A call of a function, by its contract, as one step of a region that draws. -/
theorem step_call {P : Program} {w : World} {ops : Array Oper} {o : Oper} {a : Act} {K : Act → World → Prop} {Q : Exit → Act → World → Prop} {E : Prop} (hgd : o.guard = none) (f : FuncId) (args : Array Value)
    (hrun : (execOp a.eval o).run P w = .ok (.enter f args) w) {R : Ending → World → Prop} (h : Calls P f args w R) (hK : ∀ e w', R e w' → ∃ v, e = .returned v ∧ K (a.put o.dst v) w') :
    if Region.wanted o (yielded ops a.tmps) = true then Oper.wp P o a w K Q else E := by
  rw [if_pos (by simp [Region.wanted, hgd])]
  unfold Oper.wp
  rw [hrun, Oper.upon_enter]
  refine h.mono fun e w' hr => ?_
  obtain ⟨v, rfl, hk⟩ := hK e w' hr
  exact hk

theorem Own.toK {w : World} {B : Nat} {e : TypeId} {v : Value} {n : Nat} {f : Nat → Value} (h : Own w B e v n f) : OwnK w B e 1 v n f := by
  rcases h with h | ⟨g, cap, hv, hB, hr, hm⟩
  · exact .inl h
  · refine .inr ⟨g, cap, hv, hB, ?_, hr.le, hm⟩
    rw [Nat.mul_one, Nat.mul_one]; exact hr
theorem OwnK.toOwn {w : World} {B : Nat} {e : TypeId} {v : Value} {n : Nat} {f : Nat → Value} (h : OwnK w B e 1 v n f) : Own w B e v n f := by
  rcases h with h | ⟨g, cap, hv, hB, hr, hle, hm⟩
  · exact .inl h
  · rw [Nat.mul_one, Nat.mul_one] at hr
    exact .inr ⟨g, cap, hv, hB, hr, hm⟩
/-- What an append to a list of another type leaves. -/
theorem OwnK.grownT {w w' : World} {B B' : Nat} {e e' : TypeId} {k k' : Nat} {v v' : Value} {n n' : Nat} {f f' : Nat → Value} (h : OwnK w B e k v n f) (h' : OwnK w B' e' k' v' n' f') (he : e ≠ e') (hg : w.grownBy w' v'.ownBlock) : OwnK w' B e k v n f := by
  rcases h with h | ⟨g, cap, hv, hB, hr, hm⟩
  · exact .inl h
  · refine .inr ⟨g, cap, hv, hB, hr.grown hg fun e9 => ?_, hm⟩
    exact he (h'.typed e9 hr).symm
theorem Own.grownT {w w' : World} {B B' : Nat} {e e' : TypeId} {k' : Nat} {v v' : Value} {n n' : Nat} {f f' : Nat → Value} (h : Own w B e v n f) (h' : OwnK w B' e' k' v' n' f') (he : e ≠ e') (hg : w.grownBy w' v'.ownBlock) : Own w' B e v n f :=
  (h.toK.grownT h' he hg).toOwn
theorem OwnK.ne {W : World} {B : Nat} {e : TypeId} {k : Nat} {v : Value} {m : Nat} {f : Nat → Value} (h : OwnK W B e k v m f) {j : Nat} (hj : j < B) : v.ownBlock ≠ some j := fun e9 => by
  have := (h.isCells j e9).1
  omega
theorem OwnK.below {W W' w : World} {B B0 : Nat} {e : TypeId} {k : Nat} {v : Value} {m : Nat} {f : Nat → Value} (h : OwnK W B e k v m f) (hb : Below B0 w W) (hB : B0 ≤ W.heap.size) (hB2 : B0 ≤ B) (hg : W.grownBy W' v.ownBlock) : Below B0 w W' :=
  hb.grown hg hB fun r e9 => Nat.le_trans hB2 (h.isCells r e9).1

/-- copy into a row of another type. -/
theorem copy_t {P : Program} {w : World} {o : Oper} {a : Act} (d s : Operand) (dT sT e t : TypeId)
    (hop : o.op = .call { callee := .builtin .copy, args := #[d, s], argTypes := #[dT, sT] }) (ht : P.underlying dT = some (.slice e)) (hsz : (P.info? e).map (·.size) = some 1)
    (g off dLen dCap cap n : Nat) (f : Nat → Value) (hd : a.eval d = .slice (some ⟨g, off, none⟩) dLen dCap) (hrow : RowAt w g t cap n f)
    (b so sLen sCap : Nat) (h : Nat → Value) (hs : a.eval s = .slice (some ⟨b, so, none⟩) sLen sCap) (hc : Cells w b so sLen h) (h1 : ∀ i, i < sLen → (h i).oneCell' = true)
    (k : Nat) (hk : k = Nat.min sLen dLen) (hfit : off + k ≤ n) :
    ∃ w', (execOp a.eval o).run P w = .ok (.value (.int .i64 k)) w' ∧ RowAt w' g t cap n (fun i => if off ≤ i ∧ i < off + k then h (i - off) else f i) ∧ Wrote w w' g := by
  have hrow' := hrow
  obtain ⟨cur, hg, hsz', hn, _⟩ := hrow
  have hlen : ((List.range k).map h).length = k := by simp
  have hkl : k ≤ sLen := by rw [hk]; exact Nat.min_le_left _ _
  have hrun := run_copy_row (P := P) w dT sT o.type e g off dLen dCap ⟨b, so, none⟩ sLen sCap cur t ((List.range k).map h) ht hsz hg (by rw [hlen, hk])
    (fun j u hj => by
      have hjm : j < k := by
        rcases Nat.lt_or_ge j k with h | h
        · exact h
        · rw [List.getElem?_eq_none (by simpa using h)] at hj; cases hj
      have hadd : (⟨b, so, none⟩ : Addr).add j = ⟨b, so + j, none⟩ := by unfold Addr.add; split <;> simp_all
      rw [hadd, hc j (by omega), ← hj]; simp [hjm])
    (by rw [hlen]; omega)
    (fun u hu => by
      obtain ⟨i, hi, rfl⟩ := List.mem_map.1 hu
      exact h1 i (by have : i < k := by simpa using hi
                     omega))
  rw [hlen] at hrun
  refine ⟨w.setRow g (cur.toList.take off ++ (List.range k).map h ++ cur.toList.drop (off + k)).toArray, ?_, ?_, wrote_setRow w g _⟩
  rotate_left 1
  · have := hrow'.setRow ((List.range k).map h) off (by rw [hlen]; omega) cur hg
    rw [hlen] at this
    exact this.congr fun i hi => by
      by_cases hin : off ≤ i ∧ i < off + k
      · rw [if_pos hin, if_pos hin, List.getD_eq_getElem?_getD, List.getElem?_map, List.getElem?_range (by omega)]; rfl
      · rw [if_neg hin, if_neg hin]
  · unfold execOp
    simp only [hop, resolve, invoke, builtin, Sem.run_bind, Sem.run_pure, Result.andThen_ok, List.map_toArray, List.map_cons, List.map_nil, hd, hs, hrun]
    rfl

theorem wpList_copy_t {P : Program} {ops : Array Oper} {rest : List Oper} {o : Oper} {a : Act} {w : World} {Q : Exit → Act → World → Prop} (hg : o.guard = none) (d s : Operand) (dT sT e t : TypeId)
    (hop : o.op = .call { callee := .builtin .copy, args := #[d, s], argTypes := #[dT, sT] }) (ht : P.underlying dT = some (.slice e)) (hsz : (P.info? e).map (·.size) = some 1)
    (g off dLen dCap cap n : Nat) (f : Nat → Value) (hd : a.eval d = .slice (some ⟨g, off, none⟩) dLen dCap) (hrow : RowAt w g t cap n f)
    (b so sLen sCap : Nat) (h : Nat → Value) (hs : a.eval s = .slice (some ⟨b, so, none⟩) sLen sCap) (hc : Cells w b so sLen h) (h1 : ∀ i, i < sLen → (h i).oneCell' = true)
    (k : Nat) (hk : k = Nat.min sLen dLen) (hfit : off + k ≤ n)
    (hK : ∀ w', RowAt w' g t cap n (fun i => if off ≤ i ∧ i < off + k then h (i - off) else f i) → Wrote w w' g → wpList P ops Q rest (a.put o.dst (.int .i64 k)) w') : wpList P ops Q (o :: rest) a w := by
  obtain ⟨w', hr, h2, h3⟩ := copy_t d s dT sT e t hop ht hsz g off dLen dCap cap n f hd hrow b so sLen sCap h hs hc h1 k hk hfit
  exact wpList_val hg hr (hK w' h2 h3)

theorem OwnK.wrote {w w' : World} {B g : Nat} {e : TypeId} {k : Nat} {v : Value} {n : Nat} {f : Nat → Value} (h : OwnK w B e k v n f) (hw : Wrote w w' g) (hg : g < B) : OwnK w' B e k v n f := by
  rcases h with h | ⟨r, cap, rfl, hB, hrow, hm⟩
  · exact .inl h
  · exact .inr ⟨r, cap, rfl, hB, hrow.wrote hw (by omega), hm⟩

end Go.Proofs.Ytjhcaedfknhilaa

namespace Go.Proofs.Ytjhcaedfknhilaa
set_option linter.unusedVariables false
set_option linter.unusedSimpArgs false
open Go.RowKit
attribute [local go_sem ↓] Go.wp_at_zero Go.wp_at_succ
attribute [-go_sem] Instr.build Instr.buildSlice Instr.fill loadCellsFrom

/-- As Q, but for panics. -/
def calmQ (Q : Exit → Act → World → Prop) : Exit → Act → World → Prop
  | .panic _, _, _ => False
  | e, a, w => Q e a w
theorem calm_normal {Q : Exit → Act → World → Prop} {a : Act} {w : World} (h : Q .normal a w) : calmQ Q .normal a w := h
theorem wp_calm {P : Program} {c : Code} {Q : Exit → Act → World → Prop} {a : Act} {w : World} (h : c.wp P (calmQ Q) a w) : c.wp P Q a w :=
  wp_mono h fun e a w hq => by
    cases e <;> first | exact hq | exact hq.elim

theorem run_arrayAt_sec (a : Addr) (n c : Nat) (hn : 64 ≤ n) (w : World) : (Instr.arrayAt 79 (.slice (some a) n c)).run Try.prog w = .ok (.pointer (some a)) w := by
  unfold Instr.arrayAt
  simp [Sem.run_bind, run_underlying under_sec, show ¬ n < 64 from by omega]
def byteF (f : Nat → Int) (i : Nat) : Value := .int .u8 (f i)
/-- A list of bytes as an argument: in a block ahead of B, or in one of bytes. -/
def BArg (B : Nat) (w : World) (v : Value) (n : Nat) (f : Nat → Int) : Prop :=
  (∀ i, 0 ≤ f i ∧ f i < 256) ∧ ((n = 0 ∧ ∃ a cap, v = .slice a 0 cap) ∨ ∃ b off cap, v = .slice (some ⟨b, off, none⟩) n cap ∧ 0 < n ∧ n ≤ cap ∧ cap ≤ maxLen ∧ Cells w b off n (byteF f) ∧ (b < B ∨ ∃ cur fr, w.heap[b]? = some (.cells cur 5 fr)))
theorem BArg.slice {B : Nat} {w : World} {v : Value} {n : Nat} {f : Nat → Int} (h : BArg B w v n f) : ∃ a cap, v = .slice a n cap ∧ n ≤ maxLen := by
  rcases h with ⟨_, (⟨rfl, a, cap, rfl⟩ | ⟨b, off, cap, rfl, _, h1, h2, _⟩)⟩
  · exact ⟨_, _, rfl, Nat.zero_le _⟩
  · exact ⟨_, _, rfl, Nat.le_trans h1 h2⟩
theorem BArg.move {B : Nat} {w w' : World} {v : Value} {n : Nat} {f : Nat → Int} (h : BArg B w v n f) (hm : ∀ b, b < w.heap.size → (b < B ∨ ∃ cur fr, w.heap[b]? = some (.cells cur 5 fr)) → w'.heap[b]? = w.heap[b]?) : BArg B w' v n f := by
  rcases h with ⟨hf, (h | ⟨b, off, cap, h1, h2, h3, h4, h5, h6⟩)⟩
  · exact ⟨hf, .inl h⟩
  · have hb := hm b (h5.lt h2) h6
    refine ⟨hf, .inr ⟨b, off, cap, h1, h2, h3, h4, fun i hi => (World.cell?_of_block (a := ⟨b, off + i, none⟩) hb).trans (h5 i hi), ?_⟩⟩
    rcases h6 with h6 | ⟨cur, fr, h6⟩
    · exact .inl h6
    · exact .inr ⟨cur, fr, by rw [hb]; exact h6⟩
theorem BArg.all {B : Nat} {w w' : World} {v : Value} {n : Nat} {f : Nat → Int} (h : BArg B w v n f) (hb : Below w.heap.size w w') : BArg B w' v n f :=
  h.move fun b hl _ => hb.block b hl
/-- No block of such a list is one of another type from B on. -/
theorem RowAt.neByte {B : Nat} {w : World} {g b : Nat} {e : TypeId} {c n : Nat} {F : Nat → Value} (h : RowAt w g e c n F) (hB : B ≤ g) (he : e ≠ 5) (hb : b < B ∨ ∃ cur fr, w.heap[b]? = some (.cells cur 5 fr)) : b ≠ g := by
  rintro rfl
  rcases hb with hb | ⟨cur, fr, hb⟩
  · omega
  · obtain ⟨cur', hc, _⟩ := h
    rw [hc] at hb
    injection hb with hx
    injection hx with _ hy
    exact he hy

theorem Puts.own {W : World} {B : Nat} {v : Value} {q : Nat} {a : Nat → Nat} {f : Nat → Nat → Int} (h : Puts W B v q a f) : OwnK W B 81 65 v q (putV a f) := by
  rcases h with h | ⟨g, cap, h1, h2, h3, h4⟩
  · exact .inl h
  · exact .inr ⟨g, cap, h1, h2, h3, by have := h3.le; omega, h4⟩
theorem puts_of_own {W : World} {B : Nat} {v : Value} {q : Nat} {a : Nat → Nat} {f : Nat → Nat → Int} (h : OwnK W B 81 65 v q (putV a f)) : Puts W B v q a f := by
  rcases h with h | ⟨g, cap, h1, h2, h3, _, h4⟩
  · exact .inl h
  · exact .inr ⟨g, cap, h1, h2, h3, h4⟩

theorem putV_one (a : Nat → Nat) (f : Nat → Nat → Int) (j : Nat) : (putV a f j).oneCell' = true := by
  unfold putV
  split <;> rfl
/-- k sectors more in the queue. -/
def Dsk.wrote (D : Dsk) (a k : Nat) (f : Nat → Int) : Dsk :=
  { D with q := D.q + k, qa := fun i => if i < D.q then D.qa i else a + (i - D.q), qb := fun i j => if i < D.q then D.qb i j else f ((i - D.q) * 64 + j) }
def Dsk.write (D : Dsk) (a k : Nat) (f : Nat → Int) : Dsk := (D.wrote a k f).used

theorem DiskIn.wrote0 {B g gs gb : Nat} {qv : Value} {D : Dsk} {W : World} (h : DiskIn B g gs gb qv D W) (a : Nat) (f : Nat → Int) (hf : ∀ i, 0 ≤ f i ∧ f i < 256) : DiskIn B g gs gb qv (D.wrote a 0 f) W := by
  have ho := h.ok
  refine ⟨h.row, h.sec, h.bad, ?_, h.base, ⟨ho.size, ho.byte, ho.queue, fun i hi => ?_, fun i j => ?_, ho.left⟩⟩
  · rcases h.que with hq | ⟨gq, cap, q1, q2, q3, q4⟩
    · exact .inl hq
    · refine .inr ⟨gq, cap, q1, q2, q3.congr fun i hi => ?_, q4⟩
      have hi2 : i < D.q * 65 := hi
      unfold putV Dsk.wrote
      dsimp only
      rw [if_pos (show i / 65 < D.q from by omega), if_pos (show i / 65 < D.q from by omega)]
  · have hi2 : i < D.q := hi
    show (if i < D.q then D.qa i else a + (i - D.q)) < D.n
    rw [if_pos hi2]
    exact ho.put i hi2
  · show 0 ≤ (if i < D.q then D.qb i j else f ((i - D.q) * 64 + j)) ∧ (if i < D.q then D.qb i j else f ((i - D.q) * 64 + j)) < 256
    split
    · exact ho.pbyte i j
    · exact hf _

/-- What a round of Write finds. -/
structure WriteI (B g gs gb : Nat) (D : Dsk) (a : Nat) (bv : Value) (k : Nat) (f : Nat → Int) (w : World) (i : Nat) (qv : Value) (wr : World) : Prop where
  disk : DiskIn B g gs gb qv (D.wrote a i f) wr
  below : Below B w wr
  err : RowAt wr w.heap.size 23 1 1 (fun _ => .int .i64 0)
  arg : BArg B wr bv (k * 64) f
  calm : Calm w wr

theorem wrote_cell (D : Dsk) (a i : Nat) (f : Nat → Int) (j : Nat) (hj : j < (D.q + (i + 1)) * 65) :
    (if j < (D.q + i) * 65 then putV (D.wrote a i f).qa (D.wrote a i f).qb j else putV (fun _ => a + i) (fun _ j => f (i * 64 + j)) (j - (D.q + i) * 65)) = putV (D.wrote a (i + 1) f).qa (D.wrote a (i + 1) f).qb j := by
  by_cases h : j < (D.q + i) * 65
  · rw [if_pos h]; rfl
  · rw [if_neg h]
    unfold putV Dsk.wrote
    dsimp only
    rw [show (j - (D.q + i) * 65) % 65 = j % 65 from by omega]
    have h1 : ¬ j / 65 < D.q := by omega
    rw [if_neg h1, if_neg h1, show j / 65 - D.q = i from by omega]

theorem WriteI.next {B g gs gb : Nat} {D : Dsk} {a : Nat} {bv : Value} {k : Nat} {f : Nat → Int} {w wr w2 w3 : World} {i : Nat} {qv v' : Value} (h : WriteI B g gs gb D a bv k f w i qv wr) (hf : ∀ i, 0 ≤ f i ∧ f i < 256) (ha : a + i < D.n) (hq : D.q + i < 65536) (hl : B ≤ w.heap.size)
    (hb : Below wr.heap.size wr w2) (hown : OwnK w3 B 81 65 v' (D.q + i + 1) (fun j => if j < (D.q + i) * 65 then putV (D.wrote a i f).qa (D.wrote a i f).qb j else putV (fun _ => a + i) (fun _ j => f (i * 64 + j)) (j - (D.q + i) * 65)))
    (hg : w2.grownBy w3 qv.ownBlock) : WriteI B g gs gb D a bv k f w (i + 1) v' (w3.setCell ⟨g, 2, none⟩ v') ∧ (∃ v, w3.cell? ⟨g, 2, none⟩ = some v) ∧ w3.frozen? ⟨g, 2, none⟩ = false := by
  have hd2 := h.disk.all hb
  obtain ⟨n1, n2, n3⟩ := hd2.ne
  have ho := h.disk.ok
  have ow := hd2.que.own
  have qg : qv.ownBlock ≠ some g := fun e => by have := ow.typed e hd2.row; revert this; decide
  have qs : qv.ownBlock ≠ some gs := fun e => by have := ow.typed e hd2.sec; revert this; decide
  have qb : qv.ownBlock ≠ some gb := fun e => by have := ow.typed e hd2.bad; revert this; decide
  have qe : qv.ownBlock ≠ some w.heap.size := fun e => by have := ow.typed e (h.err.all hb); revert this; decide
  have hr3 := hd2.row.grown hg qg
  have hb3 : Below B w w3 := (h.below.trans (hb.mono (Nat.le_trans hl h.below.size))).grown hg (by have := hb.size; have := h.below.size; omega) (fun k hk => (ow.isCells k hk).1)
  have hown2 : OwnK w3 B 81 65 v' (D.q + (i + 1)) (putV (D.wrote a (i + 1) f).qa (D.wrote a (i + 1) f).qb) := hown.congr fun j hj => wrote_cell D a i f j hj
  have hown3 : OwnK (w3.setCell ⟨g, 2, none⟩ v') B 81 65 v' (D.q + (i + 1)) (putV (D.wrote a (i + 1) f).qa (D.wrote a (i + 1) f).qb) := by
    rcases hown2 with h9 | ⟨gq, cq, h1, h2, h3, h4⟩
    · exact .inl h9
    · exact .inr ⟨gq, cq, h1, h2, h3.setOther _ _ (hr3.neType h3 (by decide)), h4⟩
  refine ⟨⟨⟨(hr3.set 2 v').congr fun j hj => ?_, (hd2.sec.grown hg qs).setOther _ _ n1, (hd2.bad.grown hg qb).setOther _ _ n2, puts_of_own hown3, h.disk.base, ⟨ho.size, ho.byte, ?_, fun j hj => ?_, fun j l => ?_, ho.left⟩⟩,
    hb3.setCell (p := ⟨g, 2, none⟩) h.disk.base.1 _, ((h.err.all hb).grown hg qe).setOther _ _ (hd2.row.neType (h.err.all hb) (by decide)), (h.arg.all hb).move fun b hbl hbb => ?_, ((h.calm.trans (calm_below hb)).grown hg fun r hr => ?_).setDisk hr3 rfl _⟩, ⟨_, hr3.cell (i := 2) (by omega)⟩, hr3.frozen 2⟩
  · obtain rfl | rfl | rfl | rfl | rfl | rfl : j = 0 ∨ j = 1 ∨ j = 2 ∨ j = 3 ∨ j = 4 ∨ j = 5 := by omega
    all_goals rfl
  · show D.q + (i + 1) ≤ 65536
    omega
  · have hj2 : j < D.q + (i + 1) := hj
    show (if j < D.q then D.qa j else a + (j - D.q)) < D.n
    split
    · exact ho.put j (by show j < D.q + i; omega) |> fun h => by have h9 : (if j < D.q then D.qa j else a + (j - D.q)) < D.n := h; rwa [if_pos (by assumption)] at h9
    · omega
  · show 0 ≤ (if j < D.q then D.qb j l else f ((j - D.q) * 64 + l)) ∧ (if j < D.q then D.qb j l else f ((j - D.q) * 64 + l)) < 256
    split
    · have h9 := ho.pbyte j l
      have h8 : (D.wrote a i f).qb j l = D.qb j l := by show (if j < D.q then D.qb j l else f ((j - D.q) * 64 + l)) = D.qb j l; rw [if_pos (by assumption)]
      rw [h8] at h9; exact h9
    · exact hf _
  · have hne1 : b ≠ g := hd2.row.neByte h.disk.base.1 (by decide) hbb
    refine (Below.heap_setCell w3 ⟨g, 2, none⟩ v' b hne1).trans (hg.block b hbl fun e => ?_)
    rcases ow with ⟨rfl, _⟩ | ⟨gq, cq, rfl, h2, h3, h4⟩
    · cases e
    · cases e
      exact h3.neByte h2 (by decide) hbb rfl
  · rcases ow with ⟨rfl, _⟩ | ⟨gq, cq, rfl, h2, ⟨cur, h3, _⟩, h4⟩
    · cases hr
    · cases hr
      exact ⟨_, h3, rfl⟩

theorem off_left {D : Dsk} (hok : D.Ok) (hoff : D.off = false) : D.armed = true → 1 ≤ D.left := fun ha => by
  have := hok.left
  unfold Dsk.off at hoff
  rw [ha] at hoff
  rcases Int.lt_or_le D.left 1 with h1 | h1
  · have : D.left = 0 := by omega
    rw [this] at hoff
    simp at hoff
  · exact h1
/-- What the load's facts say behind the append. -/
theorem write_keep {V W : World} {B g b o n m c : Nat} {qv u : Value} {F G : Nat → Value} {cs : List Value} (hown : OwnK V B 81 65 qv n F) (hg : V.grownBy W qv.ownBlock) (hrow : RowAt V g 76 c m G)
    (hb : b < B ∨ ∃ cur fr, V.heap[b]? = some (.cells cur 5 fr)) (hK : V.cell? ⟨g, 2, none⟩ = some u ∧ V.rangeAt b o cs) : W.cell? ⟨g, 2, none⟩ = some u ∧ W.rangeAt b o cs := by
  have qg : qv.ownBlock ≠ some g := fun e => by have := hown.typed e hrow; revert this; decide
  have qb : qv.ownBlock ≠ some b := fun e => by
    rcases hown with ⟨rfl, _⟩ | ⟨gq, cq, rfl, h2, h3, h4⟩
    · cases e
    · cases e
      exact h3.neByte h2 (by decide) hb rfl
  refine ⟨(World.cell?_of_block (hg.block g hrow.lt (fun e => qg e.symm))).trans hK.1, fun j v hj => ?_⟩
  have h1 := hK.2 j v hj
  have hl := World.block_lt_of_cell? V ⟨b, o + j, none⟩ h1
  exact (World.cell?_of_block (a := ⟨b, o + j, none⟩) (hg.block b hl (fun e => qb e.symm))).trans h1

set_option maxRecDepth 8000 in
set_option maxHeartbeats 4000000 in
theorem Write_ok {B g gs gb : Nat} {qv bv : Value} {D : Dsk} {f : Nat → Int} (a k : Nat) (w : World) (h : DiskIn B g gs gb qv D w) (hb : BArg B w bv (k * 64) f) (ha : a + k ≤ D.n) (hoff : D.off = false) (hq : D.q + k ≤ 65536) :
    Calls Try.prog 18 #[.pointer (some ⟨g, 0, none⟩), .int .i64 a, bv] w (OutQ B g gs gb 0 (D.write a k f) w) := by
  have hlt := h.lt
  have hok := h.ok
  have hsz := h.ok.size
  have Hlen := Lib.hid (off_left hok hoff)
  obtain ⟨x, cap, hqs⟩ := h.que.slice
  subst hqs
  obtain ⟨bx, bcap, hbs, hbm⟩ := hb.slice
  subst hbs
  unfold maxLen at hbm
  have hb2 : Below w.heap.size w ((w.alloc (.cells #[.int .i64 0] 23)).alloc (.cells #[] 85)) := ((Below.refl _ w).alloc (Nat.le_refl _) _).alloc (by simp) _
  have hB2 : Below B w ((w.alloc (.cells #[.int .i64 0] 23)).alloc (.cells #[] 85)) := hb2.mono hlt
  have hI0 : WriteI B g gs gb D a (.slice bx (k * 64) bcap) k f w 0 (.slice x D.q cap) ((w.alloc (.cells #[.int .i64 0] 23)).alloc (.cells #[] 85)) := ⟨(h.all hb2).wrote0 a f hb.1, hB2, (row_new1 w w.heap.size (.int .i64 0) 23 rfl).alloc _, hb.all hb2, calm_below hb2⟩
  obtain ⟨c0, c1, c2, c3, c4, c5⟩ := (h.all hb2).cells
  have HI0 := Lib.hid hI0
  have HW := Lib.hid (h.all hb2)
  have Hoff := Lib.hid hoff
  clear hI0 h hb hok hoff hb2 hB2
  have d1 : decide ((k : Int) ≤ (D.n : Int) - a) = true := decide_eq_true (by omega)
  have d2 : decide ((D.q : Int) + k ≤ 65536) = true := decide_eq_true (by omega)
  have hmo : Try.prog.follows .mixedOrders = true := by kernel_rfl
  go_enter_defers Try.func18, Try.ntmps18
  go_wp2_with fail
  refine (want_ok 23 _).mono ?_
  rintro e w1 ⟨rfl, rfl⟩
  go_wp2_with fail
  refine (want_ok 1 _).mono ?_
  rintro e w1 ⟨rfl, rfl⟩
  go_wp2_with fail
  refine (ready_ok _ HW.out Hoff.out).mono ?_
  rintro e w1 ⟨rfl, rfl⟩
  go_wp2_with fail
  refine (want_ok 5 _).mono ?_
  rintro e w1 ⟨rfl, rfl⟩
  clear c0 c1 c2 c3 c4 c5
  generalize (w.alloc (.cells #[.int .i64 0] 23)).alloc (.cells #[] 85) = W at *
  go_wp2_with fail
  go_loopw [59] (fun t wr => ∃ i : Nat, i ≤ k ∧ t = .int .i64 i ∧ ∃ qv, WriteI B g gs gb D a (.slice bx (k * 64) bcap) k f w i qv wr) (fun t _ => k - (intOf t).toNat)
  case atStart => exact ⟨0, by omega, by go_num, _, HI0.out⟩
  case round =>
    obtain ⟨i, hi, rfl, qv, hI⟩ := hrel
    have HI := Lib.hid hI; clear hI
    by_cases hlt2 : i < k
    · have hdlt : decide ((i : Int) < k) = true := decide_eq_true (by omega)
      obtain ⟨x1, cap1, hqs⟩ := HI.out.disk.que.slice
      have hqs1 : (D.wrote a i f).q = D.q + i := rfl
      rw [hqs1] at hqs
      subst hqs
      clear hqs1
      obtain ⟨hf, harg⟩ := HI.out.arg
      rcases harg with ⟨hn0, _⟩ | ⟨b, off, cap', hv, hn0, hnc, hcm, hcells, hblk⟩
      · omega
      cases hv
      have hr64 : wr.drew.rangeAt b (off + i * 64) (secL fun j => f (i * 64 + j)) := fun j v hv => by
        have hj64 : j < 64 := by
          rcases Nat.lt_or_ge j 64 with h1 | h1
          · exact h1
          · rw [List.getElem?_eq_none (by rw [secL_len]; exact h1)] at hv; cases hv
        rw [secL_get _ hj64] at hv
        cases hv
        have := hcells (i * 64 + j) (by omega)
        rw [← Nat.add_assoc] at this
        exact this
      have hc2 := (HI.out.disk.all (Below.refl _ wr).drew).cells.2.2.1
      have hcast : ((a + i : Nat) : Int) = (a : Int) + i := by omega
      have hrow := (box_put wr (a + i) (fun j => f (i * 64 + j))).drew
      rw [hcast] at hrow
      have hb1 : Below wr.heap.size wr (wr.alloc (.cells (Value.int .i64 ((a : Int) + i) :: secL fun j => f (i * 64 + j)).toArray 81)).drew := ((Below.refl _ wr).alloc (Nat.le_refl _) _).drew
      have hc21 := (HI.out.disk.all hb1).cells.2.2.1
      have hr641 : (wr.alloc (.cells (Value.int .i64 ((a : Int) + i) :: secL fun j => f (i * 64 + j)).toArray 81)).drew.rangeAt b (off + i * 64) (secL fun j => f (i * 64 + j)) := fun j v hv =>
        (hb1.cell (p := ⟨b, off + i * 64 + j, none⟩) (hcells.lt (by omega))).trans (hr64 j v hv)
      have K0 := Lib.hid (And.intro hc2 hr64)
      have hl64 : (loadCellsFrom ⟨b, off + i * 64, none⟩ 0 64 #[]).run Try.prog wr.drew = .ok (secL fun j => f (i * 64 + j)).toArray wr.drew := by
        have h9 := run_loadCells_list (P := Try.prog) wr.drew ⟨b, off + i * 64, none⟩ (secL fun j => f (i * 64 + j)) (fun j v hv => by rw [Addr.add_mid]; exact hr64 j v hv)
        rw [secL_len] at h9
        exact h9
      have K1 := Lib.hid (And.intro hc21 hr641)
      have Hown1 := Lib.hid (HI.out.disk.all hb1).que.own
      have Hrow := Lib.hid (show Cells _ wr.heap.size 0 (1 * 65) _ from hrow.reads)
      have Hb1 := Lib.hid hb1
      have Hdr1 := Lib.hid (HI.out.disk.all hb1).row
      have Hblk := Lib.hid (show b < B ∨ ∃ cur fr, (wr.alloc (.cells (Value.int .i64 ((a : Int) + i) :: secL fun j => f (i * 64 + j)).toArray 81)).drew.heap[b]? = some (.cells cur 5 fr) from by
        rcases hblk with h9 | ⟨cur, fr, h9⟩
        · exact .inl h9
        · exact .inr ⟨cur, fr, (hb1.block b (hcells.lt (by omega))).trans h9⟩)
      have Hf := Lib.hid hf
      have hu := under_sec
      have hi2 : (Try.prog.info? 79).map (·.size) = some (secL fun j => f (i * 64 + j)).length := by rw [secL_len]; exact size_sec
      have hlen := secL_len (fun j => f (i * 64 + j))
      have q1 : (0 : Int) ≤ (i : Int) * 64 := by omega
      have q2 : (i : Int) * 64 ≤ (k : Int) * 64 := by omega
      have q3 : ((i : Int) * 64).toNat = i * 64 := by omega
      have q4 : ¬ (bcap = i * 64) := by omega
      have harr := fun w => run_arrayAt_sec ⟨b, off + i * 64, none⟩ (k * 64 - i * 64) (bcap - i * 64) (by omega) w
      have q6 : IntKind.i64.wrap ((i : Int) * 64) = (i : Int) * 64 := IntWalk.i64_in _ (by omega)
      have q7 : IntKind.i64.wrap ((a : Int) + i) = (a : Int) + i := IntWalk.i64_in _ (by omega)
      have hbd := fun (w : World) => run_build_put ((a : Int) + i) (fun j => f (i * 64 + j)) w
      have hbs := fun (w : World) => run_bs_one (P := Try.prog) w 74 81 (Value.int .i64 ((a : Int) + i) :: secL fun j => f (i * 64 + j)).toArray 65 Try.underlying74 (by obtain ⟨z, hz, _⟩ := info_putd; exact info_of_map hz) (by decide) (by decide) (by simp [secL_len])
      obtain ⟨zp, hzp⟩ := info_putd
      have ZP := Lib.hid hzp
      clear hcells hr64 hc2 hzp hrow hb1 hc21 hr641 hf hblk hcast
      generalize (secL fun j => f (i * 64 + j)) = cs at *
      go_upto_region 10 with fail
      refine wp_calm ?_
      have k20 := K0.out.1
      have k21 := K1.out.1
      go_region_law ((refine step_append_k (by rfl) _ _ 74 81 _ 65 72 (by rfl) Try.underlying74 ZP.out.1 ZP.out.2 (by decide) B _ (D.q + i) _ (by rfl) Hown1.out wr.heap.size 0 1 1 _ (by rfl) Hrow.out (fun j _ => putV_one _ _ j) (by omega) (by decide) (Nat.le_trans hlt (Nat.le_trans HI.out.below.size Hb1.out.size)) ?_; intro v' w3 hown' hgr; obtain ⟨av, cv, rfl⟩ := hown'.slice; have K3 := Lib.hid (write_keep Hown1.out hgr Hdr1.out Hblk.out K1.out); have HN := Lib.hid (HI.out.next Hf.out (by omega) (by omega) hlt Hb1.out hown' hgr); have k30 := K3.out.1; have z30 := HN.out.2.2; clear hown' hgr))
      all_goals
        refine calm_normal ?_
        go_wp2
        go_roundw
        case rel => exact ⟨i + 1, by omega, by go_num, _, HN.out.1⟩
        case measure => simp [intOf]; omega
    · obtain rfl : i = k := by omega
      have hdlt : decide ((i : Int) < i) = false := decide_eq_false (by omega)
      have hul : (D.wrote a i f).armed = true → 1 ≤ (D.wrote a i f).left := Hlen.out
      have Hul := Lib.hid hul; clear hul
      go_wp2_with fail
      refine (done_any wr HI.out.disk Hul.out).mono ?_
      rintro e w5 ⟨rfl, hD5, hB5, hO5⟩
      have hro5 := HI.out.err.only3 hO5 (HI.out.err.neType HI.out.disk.row (by decide)) (HI.out.err.neType HI.out.disk.sec (by decide)) (HI.out.err.neType HI.out.disk.bad (by decide))
      have hro0 := hro5.set1 (.int .i64 0)
      have HD5 := Lib.hid (hD5.other hro5 0 (.int .i64 0))
      have HB5 := Lib.hid ((HI.out.below.trans hB5).setCell (p := ⟨w.heap.size, 0, none⟩) hlt (.int .i64 0))
      have HC5 := Lib.hid ((HI.out.calm.trans (calm_only3 HI.out.disk hO5)).setNew (g := w.heap.size) (i := 0) (Nat.le_refl _) (.int .i64 0))
      have e0 := hro5.cell (i := 0) (by omega)
      have f0 := hro5.frozen 0
      have y1 := Lib.hid (hro0.cell (i := 0) (by omega))
      clear hro5 hro0 hD5 hB5 hO5
      go_wp2
      refine leaves_cons (f := 38) (args := #[.pointer (some ⟨w.heap.size + 1, 0, none⟩), .pointer (some ⟨w.heap.size, 0, none⟩)]) (by simp) (by simp [go_sem]) ?_
      refine (catch_idle_n _ _ _).mono ?_
      rintro e u' w'' ⟨rfl, rfl, rfl⟩
      simp [Leaves, settle, results, Try.results18, go_sem, y1.out]
      exact ⟨_, rfl, HD5.out, HB5.out, HC5.out⟩

end Go.Proofs.Ytjhcaedfknhilaa
