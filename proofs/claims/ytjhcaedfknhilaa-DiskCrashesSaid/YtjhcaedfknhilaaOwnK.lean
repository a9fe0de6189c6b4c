/- Lists of elements of several cells, in rows of a call's own: append. No program in sight. -/
import Derived.Test.YtjhcaedfknhilaaRange
namespace Go.Proofs.Ytjhcaedfknhilaa
open Go.RowKit

/-- nil, or a list of n elements of k cells that lies in a row of the call's own, from block B on. -/
def OwnK (w : World) (B : Nat) (e : TypeId) (k : Nat) (v : Value) (n : Nat) (f : Nat → Value) : Prop :=
  (v = .slice none 0 0 ∧ n = 0) ∨ ∃ g cap, v = .slice (some ⟨g, 0, none⟩) n cap ∧ B ≤ g ∧ RowAt w g e (cap * k) (n * k) f ∧ n ≤ cap ∧ cap ≤ maxLen

theorem OwnK.slice {w : World} {B : Nat} {e : TypeId} {k : Nat} {v : Value} {n : Nat} {f : Nat → Value} (h : OwnK w B e k v n f) : ∃ a cap, v = .slice a n cap := by
  rcases h with ⟨rfl, rfl⟩ | ⟨g, cap, rfl, _⟩
  · exact ⟨_, _, rfl⟩
  · exact ⟨_, _, rfl⟩
theorem OwnK.mono {w : World} {B B' : Nat} {e : TypeId} {k : Nat} {v : Value} {n : Nat} {f : Nat → Value} (h : OwnK w B e k v n f) (hB : B' ≤ B) : OwnK w B' e k v n f := by
  rcases h with h | ⟨g, cap, hv, hb, rest⟩
  · exact .inl h
  · exact .inr ⟨g, cap, hv, by omega, rest⟩
theorem OwnK.congr {w : World} {B : Nat} {e : TypeId} {k : Nat} {v : Value} {n : Nat} {f f' : Nat → Value} (h : OwnK w B e k v n f) (hf : ∀ i, i < n * k → f i = f' i) : OwnK w B e k v n f' := by
  rcases h with h | ⟨g, cap, hv, hb, hr, hm⟩
  · exact .inl h
  · exact .inr ⟨g, cap, hv, hb, hr.congr hf, hm⟩
theorem OwnK.all {w w' : World} {B : Nat} {e : TypeId} {k : Nat} {v : Value} {n : Nat} {f : Nat → Value} (h : OwnK w B e k v n f) (hb : Below w.heap.size w w') : OwnK w' B e k v n f := by
  rcases h with h | ⟨g, cap, hv, hB, hr, hm⟩
  · exact .inl h
  · exact .inr ⟨g, cap, hv, hB, hr.all hb, hm⟩
theorem OwnK.setOther {w : World} {B : Nat} {e : TypeId} {k : Nat} {v : Value} {n : Nat} {f : Nat → Value} (h : OwnK w B e k v n f) (a : Addr) (u : Value) (ha : a.block < B) : OwnK (w.setCell a u) B e k v n f := by
  rcases h with h | ⟨g, cap, hv, hB, hr, hm⟩
  · exact .inl h
  · exact .inr ⟨g, cap, hv, hB, hr.setOther a u (by omega), hm⟩
theorem OwnK.isCells {W : World} {B : Nat} {e : TypeId} {k : Nat} {v : Value} {m : Nat} {f : Nat → Value} (h : OwnK W B e k v m f) : ∀ r, v.ownBlock = some r → B ≤ r ∧ ∃ o : Obj, W.heap[r]? = some o ∧ o.isCells = true := by
  intro r hr
  rcases h with ⟨rfl, _⟩ | ⟨g, cap, rfl, hB, ⟨cur, hc, _⟩, _⟩
  · cases hr
  · cases hr; exact ⟨hB, _, hc, rfl⟩
/-- The block of such a list is of this type. -/
theorem OwnK.typed {W : World} {B : Nat} {e : TypeId} {k : Nat} {v : Value} {m : Nat} {f : Nat → Value} (h : OwnK W B e k v m f) {r : Nat} (hr : v.ownBlock = some r) {e' : TypeId} {c n : Nat} {F : Nat → Value} (h' : RowAt W r e' c n F) : e = e' := by
  rcases h with ⟨rfl, _⟩ | ⟨g, cap, rfl, hB, ⟨cur, hc, _⟩, _⟩
  · cases hr
  · cases hr
    obtain ⟨cur', hc', _⟩ := h'
    rw [hc] at hc'
    injection hc' with hx
    injection hx

theorem OwnK.owns {w : World} {B : Nat} {e : TypeId} {k : Nat} {v : Value} {n : Nat} {f : Nat → Value} (h : OwnK w B e k v n f) : w.ownsRow B e k v n ((List.range (n * k)).map f) := by
  rcases h with ⟨rfl, rfl⟩ | ⟨g, cap, rfl, hB, ⟨cur, hg, hs, hn, hc⟩, hle, hm⟩
  · rw [Nat.zero_mul]; exact World.ownsRow_nil w B _ k
  · refine ⟨by simp, .inr ⟨g, cap, cur, rfl, hB, hg, hle, hm, by omega, ?_⟩⟩
    refine List.ext_getElem? fun i => ?_
    rw [List.getElem?_take]
    by_cases hi : i < n * k
    · rw [if_pos (by omega), Array.getElem?_toList, hc i hi]; simp [hi]
    · rw [if_neg (by omega)]; exact (List.getElem?_eq_none (by simp; omega)).symm

theorem ownK_of_owns {w : World} {B : Nat} {e : TypeId} {k : Nat} {v : Value} {n : Nat} {xs : List Value} {f : Nat → Value} (h : w.ownsRow B e k v n xs) (hf : ∀ i, i < n * k → xs[i]? = some (f i)) : OwnK w B e k v n f := by
  rcases h.2 with ⟨rfl, rfl⟩ | ⟨g, cap, cur, rfl, hB, hg, hn, hm, hs, ht⟩
  · exact .inl ⟨rfl, rfl⟩
  · have hle : n * k ≤ cap * k := Nat.mul_le_mul_right k hn
    refine .inr ⟨g, cap, rfl, hB, ⟨cur, hg, by omega, hle, fun i hi => ?_⟩, hn, hm⟩
    rw [← hf i hi, ← ht, List.getElem?_take, if_pos (by omega), Array.getElem?_toList]

/-- append of m elements that a slice reads, to a list of the call's own. -/
theorem append_k {P : Program} {w : World} {o : Oper} {a : Act} (s x : Operand) (t e : TypeId) (z : Value) (k bytes : Nat)
    (hop : o.op = .call { callee := .builtin .append, args := #[s, x], argTypes := #[t, t] }) (ht : P.underlying t = some (.slice e))
    (hinfo : (P.info? e).map (fun i => (i.zero, i.size, i.bytes)) = some (some z, k, bytes)) (hz : z.cells.size = k) (hk : 0 < k)
    (B : Nat) (v : Value) (n : Nat) (f : Nat → Value) (hs : a.eval s = v) (hown : OwnK w B e k v n f)
    (b off m c : Nat) (h : Nat → Value) (hx : a.eval x = .slice (some ⟨b, off, none⟩) m c) (hc : Cells w b off (m * k) h) (h1 : ∀ i, i < m * k → (h i).oneCell' = true)
    (hm : n + m ≤ 1000000000) (hby : bytes ≤ 1000) (hB : B ≤ w.heap.size) :
    ∃ v' w', (execOp a.eval o).run P w = .ok (.value v') w' ∧ OwnK w' B e k v' (n + m) (fun i => if i < n * k then f i else h (i - n * k)) ∧ w.grownBy w' v.ownBlock := by
  obtain ⟨i0, hi, hz0, hz1, hz2⟩ := info_parts hinfo
  have hbytes : (n + m) * bytes ≤ 140737488355328 := by
    have h1 : (n + m) * bytes ≤ 1000000000 * 1000 := Nat.mul_le_mul hm hby
    omega
  obtain ⟨v', w', hr, h2, h3, h4, h5⟩ := run_append_own_at (P := P) w B t o.type e i0 z k bytes ht hi hz0 hz1 hz2 hz hk v n _ hown.owns ⟨b, off, none⟩ m c ((List.range (m * k)).map h) (by simp)
    (fun j u hj => by
      have hjm : j < m * k := by
        rcases Nat.lt_or_ge j (m * k) with h | h
        · exact h
        · rw [List.getElem?_eq_none (by simpa using h)] at hj; cases hj
      have hadd : (⟨b, off, none⟩ : Addr).add j = ⟨b, off + j, none⟩ := by unfold Addr.add; split <;> simp_all
      rw [hadd, hc j hjm, ← hj]; simp [hjm])
    (fun u hu => by
      obtain ⟨i, hi, rfl⟩ := List.mem_map.1 hu
      exact h1 i (by simpa using hi)) (by simp only [maxLen]; omega) hbytes hB
  refine ⟨v', w', ?_, ownK_of_owns h2 (fun i hi => ?_), h3⟩
  · unfold execOp
    simp only [hop, resolve, invoke, builtin, Sem.run_bind, Sem.run_pure, Result.andThen_ok, List.map_toArray, List.map_cons, List.map_nil, hs, hx, hr]
  · rw [List.getElem?_append]
    simp only [List.length_map, List.length_range]
    rw [Nat.add_mul] at hi
    by_cases hin : i < n * k
    · simp [hin]
    · simp only [if_neg hin]
      rw [List.getElem?_map, List.getElem?_range (by omega)]; rfl

theorem wpList_append_k {P : Program} {ops : Array Oper} {rest : List Oper} {o : Oper} {a : Act} {w : World} {Q : Exit → Act → World → Prop} (hg : o.guard = none) (s x : Operand) (t e : TypeId) (z : Value) (k bytes : Nat)
    (hop : o.op = .call { callee := .builtin .append, args := #[s, x], argTypes := #[t, t] }) (ht : P.underlying t = some (.slice e))
    (hinfo : (P.info? e).map (fun i => (i.zero, i.size, i.bytes)) = some (some z, k, bytes)) (hz : z.cells.size = k) (hk : 0 < k)
    (B : Nat) (v : Value) (n : Nat) (f : Nat → Value) (hs : a.eval s = v) (hown : OwnK w B e k v n f)
    (b off m c : Nat) (h : Nat → Value) (hx : a.eval x = .slice (some ⟨b, off, none⟩) m c) (hc : Cells w b off (m * k) h) (h1 : ∀ i, i < m * k → (h i).oneCell' = true)
    (hm : n + m ≤ 1000000000) (hby : bytes ≤ 1000) (hB : B ≤ w.heap.size)
    (hK : ∀ v' w', OwnK w' B e k v' (n + m) (fun i => if i < n * k then f i else h (i - n * k)) → w.grownBy w' v.ownBlock → wpList P ops Q rest (a.put o.dst v') w') : wpList P ops Q (o :: rest) a w := by
  obtain ⟨v', w', hr, h2, h3⟩ := append_k s x t e z k bytes hop ht hinfo hz hk B v n f hs hown b off m c h hx hc h1 hm hby hB
  exact wpList_val hg hr (hK v' w' h2 h3)

theorem step_append_k {P : Program} {w : World} {ops : Array Oper} {o : Oper} {a : Act} {K : Act → World → Prop} {Q : Exit → Act → World → Prop} {E : Prop} (hgd : o.guard = none) (s x : Operand) (t e : TypeId) (z : Value) (k bytes : Nat)
    (hop : o.op = .call { callee := .builtin .append, args := #[s, x], argTypes := #[t, t] }) (ht : P.underlying t = some (.slice e))
    (hinfo : (P.info? e).map (fun i => (i.zero, i.size, i.bytes)) = some (some z, k, bytes)) (hz : z.cells.size = k) (hk : 0 < k)
    (B : Nat) (v : Value) (n : Nat) (f : Nat → Value) (hs : a.eval s = v) (hown : OwnK w B e k v n f)
    (b off m c : Nat) (h : Nat → Value) (hx : a.eval x = .slice (some ⟨b, off, none⟩) m c) (hc : Cells w b off (m * k) h) (h1 : ∀ i, i < m * k → (h i).oneCell' = true)
    (hm : n + m ≤ 1000000000) (hby : bytes ≤ 1000) (hB : B ≤ w.heap.size)
    (hK : ∀ v' w', OwnK w' B e k v' (n + m) (fun i => if i < n * k then f i else h (i - n * k)) → w.grownBy w' v.ownBlock → K (a.put o.dst v') w') :
    if Region.wanted o (yielded ops a.tmps) = true then Oper.wp P o a w K Q else E := by
  rw [if_pos (by simp [Region.wanted, hgd])]
  obtain ⟨v', w', hr, h2, h3⟩ := append_k s x t e z k bytes hop ht hinfo hz hk B v n f hs hown b off m c h hx hc h1 hm hby hB
  unfold Oper.wp
  rw [hr]
  exact hK v' w' h2 h3

theorem step_append_o {P : Program} {w : World} {ops : Array Oper} {o : Oper} {a : Act} {K : Act → World → Prop} {Q : Exit → Act → World → Prop} {E : Prop} (hgd : o.guard = none) (s x : Operand) (t e : TypeId) (z : Value) (bytes : Nat)
    (hop : o.op = .call { callee := .builtin .append, args := #[s, x], argTypes := #[t, t] }) (ht : P.underlying t = some (.slice e))
    (hinfo : (P.info? e).map (fun i => (i.zero, i.size, i.bytes)) = some (some z, 1, bytes)) (hz : z.cells.size = 1)
    (B : Nat) (v : Value) (n : Nat) (f : Nat → Value) (hs : a.eval s = v) (hown : Own w B e v n f)
    (b off m c : Nat) (h : Nat → Value) (hx : a.eval x = .slice (some ⟨b, off, none⟩) m c) (hc : Cells w b off m h) (h1 : ∀ i, i < m → (h i).oneCell' = true)
    (hm : n + m ≤ 1000000000) (hby : bytes ≤ 1000) (hB : B ≤ w.heap.size)
    (hK : ∀ v' w', Own w' B e v' (n + m) (fun i => if i < n then f i else h (i - n)) → w.grownBy w' v.ownBlock → K (a.put o.dst v') w') :
    if Region.wanted o (yielded ops a.tmps) = true then Oper.wp P o a w K Q else E := by
  rw [if_pos (by simp [Region.wanted, hgd])]
  obtain ⟨v', w', hr, h2, h3, _, _⟩ := append_o s x t e z bytes hop ht hinfo hz B v n f hs hown b off m c h hx hc h1 hm hby hB
  unfold Oper.wp
  rw [hr]
  exact hK v' w' h2 h3

/-- A call of a function, by its contract, as one step of a region that draws. -/
theorem step_call {P : Program} {w : World} {ops : Array Oper} {o : Oper} {a : Act} {K : Act → World → Prop} {Q : Exit → Act → World → Prop} {E : Prop} (hgd : o.guard = none) (f : FuncId) (args : Array Value)
    (hrun : (execOp a.eval o).run P w = .ok (.enter f args) w) {R : Ending → World → Prop} (h : Calls P f args w R) (hK : ∀ e w', R e w' → ∃ v, e = .returned v ∧ K (a.put o.dst v) w') :
    if Region.wanted o (yielded ops a.tmps) = true then Oper.wp P o a w K Q else E := by
  rw [if_pos (by simp [Region.wanted, hgd])]
  unfold Oper.wp
  rw [hrun, Oper.upon_enter]
  refine h.mono fun e w' hr => ?_
  obtain ⟨v, rfl, hk⟩ := hK e w' hr
  exact hk

theorem Own.toK {w : World} {B : Nat} {e : TypeId} {v : Value} {n : Nat} {f : Nat → Value} (h : Own w B e v n f) : OwnK w B e 1 v n f := by
  rcases h with h | ⟨g, cap, hv, hB, hr, hm⟩
  · exact .inl h
  · refine .inr ⟨g, cap, hv, hB, ?_, hr.le, hm⟩
    rw [Nat.mul_one, Nat.mul_one]; exact hr
theorem OwnK.toOwn {w : World} {B : Nat} {e : TypeId} {v : Value} {n : Nat} {f : Nat → Value} (h : OwnK w B e 1 v n f) : Own w B e v n f := by
  rcases h with h | ⟨g, cap, hv, hB, hr, hle, hm⟩
  · exact .inl h
  · rw [Nat.mul_one, Nat.mul_one] at hr
    exact .inr ⟨g, cap, hv, hB, hr, hm⟩
/-- What an append to a list of another type leaves. -/
theorem OwnK.grownT {w w' : World} {B B' : Nat} {e e' : TypeId} {k k' : Nat} {v v' : Value} {n n' : Nat} {f f' : Nat → Value} (h : OwnK w B e k v n f) (h' : OwnK w B' e' k' v' n' f') (he : e ≠ e') (hg : w.grownBy w' v'.ownBlock) : OwnK w' B e k v n f := by
  rcases h with h | ⟨g, cap, hv, hB, hr, hm⟩
  · exact .inl h
  · refine .inr ⟨g, cap, hv, hB, hr.grown hg fun e9 => ?_, hm⟩
    exact he (h'.typed e9 hr).symm
theorem Own.grownT {w w' : World} {B B' : Nat} {e e' : TypeId} {k' : Nat} {v v' : Value} {n n' : Nat} {f f' : Nat → Value} (h : Own w B e v n f) (h' : OwnK w B' e' k' v' n' f') (he : e ≠ e') (hg : w.grownBy w' v'.ownBlock) : Own w' B e v n f :=
  (h.toK.grownT h' he hg).toOwn
theorem OwnK.ne {W : World} {B : Nat} {e : TypeId} {k : Nat} {v : Value} {m : Nat} {f : Nat → Value} (h : OwnK W B e k v m f) {j : Nat} (hj : j < B) : v.ownBlock ≠ some j := fun e9 => by
  have := (h.isCells j e9).1
  omega
theorem OwnK.below {W W' w : World} {B B0 : Nat} {e : TypeId} {k : Nat} {v : Value} {m : Nat} {f : Nat → Value} (h : OwnK W B e k v m f) (hb : Below B0 w W) (hB : B0 ≤ W.heap.size) (hB2 : B0 ≤ B) (hg : W.grownBy W' v.ownBlock) : Below B0 w W' :=
  hb.grown hg hB fun r e9 => Nat.le_trans hB2 (h.isCells r e9).1

/-- copy into a row of another type. -/
theorem copy_t {P : Program} {w : World} {o : Oper} {a : Act} (d s : Operand) (dT sT e t : TypeId)
    (hop : o.op = .call { callee := .builtin .copy, args := #[d, s], argTypes := #[dT, sT] }) (ht : P.underlying dT = some (.slice e)) (hsz : (P.info? e).map (·.size) = some 1)
    (g off dLen dCap cap n : Nat) (f : Nat → Value) (hd : a.eval d = .slice (some ⟨g, off, none⟩) dLen dCap) (hrow : RowAt w g t cap n f)
    (b so sLen sCap : Nat) (h : Nat → Value) (hs : a.eval s = .slice (some ⟨b, so, none⟩) sLen sCap) (hc : Cells w b so sLen h) (h1 : ∀ i, i < sLen → (h i).oneCell' = true)
    (k : Nat) (hk : k = Nat.min sLen dLen) (hfit : off + k ≤ n) :
    ∃ w', (execOp a.eval o).run P w = .ok (.value (.int .i64 k)) w' ∧ RowAt w' g t cap n (fun i => if off ≤ i ∧ i < off + k then h (i - off) else f i) ∧ Wrote w w' g := by
  have hrow' := hrow
  obtain ⟨cur, hg, hsz', hn, _⟩ := hrow
  have hlen : ((List.range k).map h).length = k := by simp
  have hkl : k ≤ sLen := by rw [hk]; exact Nat.min_le_left _ _
  have hrun := run_copy_row (P := P) w dT sT o.type e g off dLen dCap ⟨b, so, none⟩ sLen sCap cur t ((List.range k).map h) ht hsz hg (by rw [hlen, hk])
    (fun j u hj => by
      have hjm : j < k := by
        rcases Nat.lt_or_ge j k with h | h
        · exact h
        · rw [List.getElem?_eq_none (by simpa using h)] at hj; cases hj
      have hadd : (⟨b, so, none⟩ : Addr).add j = ⟨b, so + j, none⟩ := by unfold Addr.add; split <;> simp_all
      rw [hadd, hc j (by omega), ← hj]; simp [hjm])
    (by rw [hlen]; omega)
    (fun u hu => by
      obtain ⟨i, hi, rfl⟩ := List.mem_map.1 hu
      exact h1 i (by have : i < k := by simpa using hi
                     omega))
  rw [hlen] at hrun
  refine ⟨w.setRow g (cur.toList.take off ++ (List.range k).map h ++ cur.toList.drop (off + k)).toArray, ?_, ?_, wrote_setRow w g _⟩
  rotate_left 1
  · have := hrow'.setRow ((List.range k).map h) off (by rw [hlen]; omega) cur hg
    rw [hlen] at this
    exact this.congr fun i hi => by
      by_cases hin : off ≤ i ∧ i < off + k
      · rw [if_pos hin, if_pos hin, List.getD_eq_getElem?_getD, List.getElem?_map, List.getElem?_range (by omega)]; rfl
      · rw [if_neg hin, if_neg hin]
  · unfold execOp
    simp only [hop, resolve, invoke, builtin, Sem.run_bind, Sem.run_pure, Result.andThen_ok, List.map_toArray, List.map_cons, List.map_nil, hd, hs, hrun]
    rfl

theorem wpList_copy_t {P : Program} {ops : Array Oper} {rest : List Oper} {o : Oper} {a : Act} {w : World} {Q : Exit → Act → World → Prop} (hg : o.guard = none) (d s : Operand) (dT sT e t : TypeId)
    (hop : o.op = .call { callee := .builtin .copy, args := #[d, s], argTypes := #[dT, sT] }) (ht : P.underlying dT = some (.slice e)) (hsz : (P.info? e).map (·.size) = some 1)
    (g off dLen dCap cap n : Nat) (f : Nat → Value) (hd : a.eval d = .slice (some ⟨g, off, none⟩) dLen dCap) (hrow : RowAt w g t cap n f)
    (b so sLen sCap : Nat) (h : Nat → Value) (hs : a.eval s = .slice (some ⟨b, so, none⟩) sLen sCap) (hc : Cells w b so sLen h) (h1 : ∀ i, i < sLen → (h i).oneCell' = true)
    (k : Nat) (hk : k = Nat.min sLen dLen) (hfit : off + k ≤ n)
    (hK : ∀ w', RowAt w' g t cap n (fun i => if off ≤ i ∧ i < off + k then h (i - off) else f i) → Wrote w w' g → wpList P ops Q rest (a.put o.dst (.int .i64 k)) w') : wpList P ops Q (o :: rest) a w := by
  obtain ⟨w', hr, h2, h3⟩ := copy_t d s dT sT e t hop ht hsz g off dLen dCap cap n f hd hrow b so sLen sCap h hs hc h1 k hk hfit
  exact wpList_val hg hr (hK w' h2 h3)

theorem OwnK.wrote {w w' : World} {B g : Nat} {e : TypeId} {k : Nat} {v : Value} {n : Nat} {f : Nat → Value} (h : OwnK w B e k v n f) (hw : Wrote w w' g) (hg : g < B) : OwnK w' B e k v n f := by
  rcases h with h | ⟨r, cap, rfl, hB, hrow, hm⟩
  · exact .inl h
  · exact .inr ⟨r, cap, rfl, hB, hrow.wrote hw (by omega), hm⟩

end Go.Proofs.Ytjhcaedfknhilaa
