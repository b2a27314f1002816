/- A region that draws its order, walked in ONE order, what it reads being some cells that no operation of the region changes. Append onto a row of one's own, which keeps the cells that were there. (No program in sight.) -/
import Derived.Test.YthdcahkedlijpaaGreatLoanK
import Derived.Deep.AppendLies
namespace Go.Proofs.YthdcahkedlijpaaGreat
open Go.RowKit Go.Proofs.YthdcahkedlijpaaGreat.Am Go.Proofs.YthdcahkedlijpaaGreat.loan
set_option linter.unusedVariables false
section
variable {P : Program} {ops : Array Oper} {Q : Exit → Act → World → Prop}
def Cells (L : List Addr) (w w' : World) : Prop := ∀ p ∈ L, w'.cell? p = w.cell? p
theorem Cells.get {L : List Addr} {w w' : World} {p : Addr} {u : Value} (h : Cells L w w') (hp : p ∈ L) (hc : w.cell? p = some u) : w'.cell? p = some u := (h p hp).trans hc
theorem Cells.refl (L : List Addr) (w : World) : Cells L w w := fun _ _ => rfl
theorem Cells.of_ext {L : List Addr} {w w' : World} (h : Below w.heap.size w w') (hL : ∀ p ∈ L, p.block < w.heap.size) : Cells L w w' := fun p hp => h.cell (p := p) (hL p hp)
theorem region_cells (L : List Addr) {id : Nat} {a : Act} {w : World} (r : List (Nat × Bool)) (hm : P.follows .mixedOrders = true) (hs : Region.noSelect ops = true) (hlen : r.length ≤ ops.size) (hok : okOrder .any ops r (Array.replicate ops.size false) = true)
    (hQ : ∀ (d : Tmp) (v : Value) c a w, Q (.panic c) (a.put (some d) v) w → Q (.panic c) a w) (h : SeqE P ops Q (Cells L) r a w.drew) : (Code.region id ops true).wp P Q a w :=
  wp_region_any hm (wpAny_of_E _ _ _ _ (seqE_any (fun w => Cells.refl L w) (fun _ _ _ h k p hp => (k p hp).trans (h p hp)) hs (fun d v c a w h => match d, h with | none, h => h | some d, h => hQ d v c a w h) r _ _ _ _ hlen hok h))
theorem SeqC.take {L : List Addr} {i : Nat} {o : Oper} {r : List (Nat × Bool)} {a : Act} {w : World} {v : Value} (ho : ops.toList[i]? = some o) (hw : Region.wanted o (yielded ops a.tmps) = true) (hrun : ∀ W, Cells L w W → (execOp a.eval o).run P W = .ok (.value v) W)
    (h : SeqE P ops Q (Cells L) r (a.put o.dst v) w) : SeqE P ops Q (Cells L) ((i, true) :: r) a w := ⟨o, v, op_of ho, .inl ⟨hw, hrun⟩, h⟩
theorem SeqC.skip {L : List Addr} {i : Nat} {o : Oper} {r : List (Nat × Bool)} {a : Act} {w : World} (ho : ops.toList[i]? = some o) (hw : Region.wanted o (yielded ops a.tmps) = false)
    (h : SeqE P ops Q (Cells L) r (a.put o.dst undef) w) : SeqE P ops Q (Cells L) ((i, true) :: r) a w := ⟨o, undef, op_of ho, .inr ⟨hw, rfl⟩, h⟩
theorem SeqC.pass {L : List Addr} {i : Nat} {o : Oper} {r : List (Nat × Bool)} {a : Act} {w : World} (ho : ops.toList[i]? = some o) (hw : Region.wanted o (yielded ops a.tmps) = false)
    (h : SeqE P ops Q (Cells L) r (a.put o.dst undef) w) : SeqE P ops Q (Cells L) ((i, false) :: r) a w :=
  wpOp_step (op_of ho) fun K' hK => by rw [hw]; exact hK _ _ ⟨Cells.refl _ _, h⟩
theorem SeqC.step {L : List Addr} {i : Nat} {o : Oper} {r : List (Nat × Bool)} {a : Act} {w : World} (ho : ops.toList[i]? = some o) (hw : Region.wanted o (yielded ops a.tmps) = true)
    (h : ∀ K' : Act → World → Prop, (∀ a w', Cells L w w' → SeqE P ops Q (Cells L) r a w' → K' a w') → Oper.wp P o a w K' Q) : SeqE P ops Q (Cells L) ((i, false) :: r) a w :=
  wpOp_step (op_of ho) fun K' hK => by rw [hw]; exact h K' fun a w' he hs => hK a w' ⟨he, hs⟩
theorem SeqC.val {L : List Addr} {i : Nat} {o : Oper} {r : List (Nat × Bool)} {a : Act} {w w' : World} {v : Value} (ho : ops.toList[i]? = some o) (hw : Region.wanted o (yielded ops a.tmps) = true)
    (hrun : (execOp a.eval o).run P w = .ok (.value v) w') (he : Cells L w w') (h : SeqE P ops Q (Cells L) r (a.put o.dst v) w') : SeqE P ops Q (Cells L) ((i, false) :: r) a w :=
  SeqC.step ho hw fun K' hK => by
    unfold Oper.wp
    rw [hrun]
    simp only [Oper.upon]
    exact hK _ _ he h
theorem SeqC.call {L : List Addr} {i : Nat} {o : Oper} {r : List (Nat × Bool)} {a : Act} {w : World} {f : FuncId} {args : Array Value} (ho : ops.toList[i]? = some o) (hw : Region.wanted o (yielded ops a.tmps) = true)
    (hrun : (execOp a.eval o).run P w = .ok (.enter f args) w) (h : Calls P f args w fun e w' => ∃ v, e = .returned v ∧ Cells L w w' ∧ SeqE P ops Q (Cells L) r (a.put o.dst v) w') : SeqE P ops Q (Cells L) ((i, false) :: r) a w :=
  SeqC.step ho hw fun K' hK => by
    unfold Oper.wp
    rw [hrun]
    simp only [Oper.upon]
    refine h.mono ?_
    rintro e w' ⟨v, rfl, he, hs⟩
    exact hK _ _ he hs
theorem SeqC.done {L : List Addr} {a : Act} {w : World} (h : Q .normal a w) : SeqE P ops Q (Cells L) [] a w := h
end
theorem run_append_keep {P : Program} {w : World} (t ty : TypeId) (base : Nat) (e : TypeId) (z : Value) (size bytes : Nat) (ht : P.underlying t = some (.slice e)) (hrow : (P.info? e).map (fun i => (i.zero, i.size, i.bytes)) = some (some z, size, bytes)) (hzs : z.cells.size = size) (hsz : 0 < size)
    (v : Value) (n : Nat) (xs : List Value) (hown : w.ownsRow base e size v n xs) (us : List Value) (g0 c : Nat) (hg : w.heap[g0]? = some (.cells us.toArray e (0, 0))) (hl : us.length = size) (h1 : ∀ u ∈ us, u.oneCell' = true)
    (hn : n < 1000000) (hby : bytes ≤ 1024) (hbase : base ≤ w.heap.size) :
    ∃ v' w', (Builtin.append_ #[t, t] ty #[v, .slice (some ⟨g0, 0, none⟩) 1 c]).run P w = .ok v' w' ∧ w'.ownsRow base e size v' (n + 1) (xs ++ us) ∧ w.grownBy w' v.ownBlock ∧
      (∀ (p : Addr) (u : Value), w.cell? p = some u → (v.ownBlock = some p.block → p.off < xs.length) → w'.cell? p = some u) := by
  obtain ⟨i0, hi, hz0, hz1, hz2⟩ := info_parts hrow
  have hmul : (n + 1) * bytes ≤ 1000000 * 1024 := Nat.mul_le_mul (by omega) hby
  have hnews : ∀ j u, us[j]? = some u → w.cell? ((⟨g0, 0, none⟩ : Addr).add j) = some u := fun j u hu => by
    rw [addr_add, Nat.zero_add, cell_of_row w g0 j us.toArray e (0, 0) hg]
    simpa using hu
  obtain ⟨v', w', hr, h2, h3, h4⟩ := run_append_own (P := P) w base t ty e i0 z size bytes ht hi hz0 hz1 hz2 hzs hsz v n xs hown ⟨g0, 0, none⟩ 1 c us (by omega) hnews h1 (by simp only [maxLen]; omega) (by omega) hbase
  refine ⟨v', w', hr, h2, h3, fun p u hc hp => ?_⟩
  by_cases hb : v.ownBlock = some p.block
  · have hq := hp hb
    clear hp
    rcases hown.2 with ⟨rfl, _⟩ | ⟨g, cap, cur, rfl, hbg, hgc, hnc, hcm, hcs, htake⟩
    · cases hb
    · have hgp : g = p.block := by simpa [Value.ownBlock] using hb
      have hsp : p.spot = none := World.cell?_spot hc
      obtain ⟨pb, po, ps⟩ := p
      subst hgp
      have hsp : ps = none := hsp
      subst hsp
      have hq : po < xs.length := hq
      have hx := hown.1
      by_cases hroom : n + 1 ≤ cap
      · have hfit : n * i0.size + us.length ≤ cur.size := by rw [hl, hcs, hz1]; have := Nat.mul_le_mul_right size hroom; rw [Nat.succ_mul] at this; exact this
        have hr2 := run_append_room (P := P) w t ty e i0 ht hi g n cap cur hgc ⟨g0, 0, none⟩ 1 c us (by omega) hnews h1 hroom hfit
        rw [hr] at hr2
        cases hr2
        rw [cell_of_row _ g po _ e (0, 0) (setRow_heap w g cur _ e _ hgc)]
        rw [cell_of_row w g po cur e (0, 0) hgc] at hc
        have hpn : po < (cur.toList.take (n * i0.size)).length := by rw [hz1, htake]; exact hq
        rw [List.getElem?_toArray, List.append_assoc, List.getElem?_append_left hpn, List.getElem?_take, if_pos (by rw [List.length_take] at hpn; omega)]
        simpa using hc
      · have holds : ∀ j u, xs[j]? = some u → w.cell? ((⟨g, 0, none⟩ : Addr).add j) = some u := hown.cells (g := g) rfl
        have hr2 := run_append_grow (P := P) w t ty e i0 z ht hi hz0 ⟨g, 0, none⟩ n cap xs (by rw [hz1]; exact hown.1) holds ⟨g0, 0, none⟩ 1 c us (by omega) hnews (by omega) (by omega) (growslice_fits (by omega) (by rw [hz2]; omega))
        rw [hr] at hr2
        cases hr2
        exact cell_more (w := w.drew) hc
  · rw [h3.cell_far p (World.block_lt_of_cell? w p hc) (fun e => hb e.symm)]
    exact hc
theorem wp_append_keep {P : Program} {w : World} {o : Oper} {a : Act} {K : Act → World → Prop} {Q : Exit → Act → World → Prop} (s x : Operand) (t : TypeId)
    (ho : o.op = .call { callee := .builtin .append, args := #[s, x], argTypes := #[t, t] }) (base : Nat) (e : TypeId) (z : Value) (size bytes : Nat) (ht : P.underlying t = some (.slice e)) (hrow : (P.info? e).map (fun i => (i.zero, i.size, i.bytes)) = some (some z, size, bytes)) (hzs : z.cells.size = size) (hsz : 0 < size)
    (v : Value) (n : Nat) (xs : List Value) (hs : a.eval s = v) (hown : w.ownsRow base e size v n xs) (us : List Value) (g0 c : Nat) (hx : a.eval x = .slice (some ⟨g0, 0, none⟩) 1 c) (hg : w.heap[g0]? = some (.cells us.toArray e (0, 0))) (hl : us.length = size) (h1 : ∀ u ∈ us, u.oneCell' = true)
    (hn : n < 1000000) (hby : bytes ≤ 1024) (w0 : World) (hbel : Below base w0 w) (hbase : base ≤ w.heap.size)
    (h : ∀ v' w', w'.ownsRow base e size v' (n + 1) (xs ++ us) → Below base w0 w' → (∀ (p : Addr) (u : Value), w.cell? p = some u → (v.ownBlock = some p.block → p.off < xs.length) → w'.cell? p = some u) → K (a.put o.dst v') w') : o.wp P a w K Q := by
  obtain ⟨v', w', hr, h2, h3, h4⟩ := run_append_keep (P := P) (w := w) t o.type base e z size bytes ht hrow hzs hsz v n xs hown us g0 c hg hl h1 hn hby hbase
  unfold Oper.wp execOp
  simp only [ho, resolve, invoke, builtin, Sem.run_bind, Sem.run_pure, Result.andThen_ok, List.map_toArray, List.map_cons, List.map_nil, hs, hx, hr]
  exact h v' w' h2 (hbel.grown h3 hbase (fun k hk => (hown.lt k hk).1)) h4
end Go.Proofs.YthdcahkedlijpaaGreat
