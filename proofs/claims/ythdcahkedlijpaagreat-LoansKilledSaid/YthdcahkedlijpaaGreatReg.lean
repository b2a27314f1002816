/- Small words for memory that the other texts use (no program in sight). Increasing: the numbers of the truth values that are true, in order. Small words on strings and bytes (no program in sight). A region that draws its order, walked in ONE order: what only reads is taken as soon as it may come up, if its value stands in every later world; what changes the world must be the only one that may come up. (No program in sight.) A region whose calls and allocations have no fixed order: the tree of orders, one light step at a time. (No program in sight.) -/
import Derived.WalkKit
import Derived.WalkSpells
import Derived.WalkLawsBesides
import Derived.IntWalk
import Derived.Lib.Hide
import Derived.Laws.BytesArg
import Derived.Test.YthdcahkedlijpaaGreatProg
import Derived.Test.YthdcahkedlijpaaGreatAmC
import Derived.Lib.ConvBytes
import Derived.OpenShut
import Derived.OrdersHeld
import Derived.RegionTactic
namespace Go.Proofs.YthdcahkedlijpaaGreat
open Go.RowKit
def Row (w : World) (B : Nat) (k : IntKind) (A : Option Addr) (xs : List Int) : Prop :=
  0 < xs.length → ∃ b off, A = some ⟨b, off, none⟩ ∧ b < B ∧ ∀ j, j < xs.length → w.cell? ⟨b, off + j, none⟩ = some (.int k (xs.getD j 0))
theorem Row.keep {w w' : World} {B : Nat} {k : IntKind} {A : Option Addr} {xs : List Int} (h : Row w B k A xs) (hk : ∀ p : Addr, p.block < B → w'.cell? p = w.cell? p) : Row w' B k A xs := fun hn => by
  obtain ⟨b, off, e, hb, hc⟩ := h hn
  exact ⟨b, off, e, hb, fun j hj => (hk ⟨b, off + j, none⟩ hb).trans (hc j hj)⟩
theorem Row.below {w w' : World} {B B' : Nat} {k : IntKind} {A : Option Addr} {xs : List Int} (h : Row w B k A xs) (hb : Below B' w w') (hB : B ≤ B') : Row w' B k A xs := h.keep fun p hp => hb.cell (by omega)
theorem Row.more {w : World} {B B' : Nat} {k : IntKind} {A : Option Addr} {xs : List Int} (h : Row w B k A xs) (hB : B ≤ B') : Row w B' k A xs := fun hn => by
  obtain ⟨b, off, e, hb, hc⟩ := h hn
  exact ⟨b, off, e, by omega, hc⟩
theorem Row.of_own {w : World} {base : Nat} {e : TypeId} {k : IntKind} {v : Value} {n : Nat} {xs : List Int} (h : w.ownsRow base e 1 v n (xs.map (Value.int k))) :
    ∃ A cap, v = .slice A xs.length cap ∧ xs.length ≤ cap ∧ cap ≤ maxLen ∧ Row w w.heap.size k A xs ∧ n = xs.length := by
  obtain ⟨h1, h2⟩ := h
  have hn : xs.length = n := by simpa using h1
  rcases h2 with ⟨rfl, h0⟩ | ⟨g, cap, cur, rfl, _, hg, hc, hm, hs, ht⟩
  · exact ⟨none, 0, by rw [hn, h0], by omega, by simp [maxLen], fun hp => by omega, hn.symm⟩
  · refine ⟨_, cap, by rw [hn], by omega, hm, fun _ => ⟨g, 0, rfl, (Array.getElem?_eq_some_iff.1 hg).1, fun j hj => ?_⟩, hn.symm⟩
    rw [Nat.zero_add, cell_of_row w g j cur e (0, 0) hg]
    have hj' : (xs.map (Value.int k))[j]? = some (.int k (xs.getD j 0)) := by
      simp [List.getD, List.getElem?_eq_getElem hj]
    rw [← ht, List.getElem?_take] at hj'
    split at hj'
    · simpa using hj'
    · cases hj'
theorem Row.new (w : World) (k : IntKind) (e : TypeId) (m : Nat × Nat) (xs : List Int) : Row (w.alloc (.cells (xs.map (Value.int k)).toArray e m)) (w.heap.size + 1) k (some ⟨w.heap.size, 0, none⟩) xs := fun _ =>
  ⟨w.heap.size, 0, rfl, by omega, fun j hj => by
    rw [Nat.zero_add, cell_of_row _ w.heap.size j _ e m (heap_alloc_new w _)]
    simp [List.getD, List.getElem?_eq_getElem hj]⟩
theorem wpList_append1 {P : Program} {ops : Array Oper} {rest : List Oper} {o : Oper} {a : Act} {Q : Exit → Act → World → Prop} {w0 w : World} (hgd : o.guard = none) (s x : Operand) (t : TypeId)
    (ho : o.op = .call { callee := .builtin .append, args := #[s, x], argTypes := #[t, t] })
    (B : Nat) (e : TypeId) (z : Value) (bytes : Nat) (ht : P.underlying t = some (.slice e)) (hrow : (P.info? e).map (fun i => (i.zero, i.size, i.bytes)) = some (some z, 1, bytes)) (hzs : z.cells.size = 1)
    (v : Value) (n : Nat) (xs : List Value) (hs : a.eval s = v) (hown : w.ownsRow B e 1 v n xs)
    (u : Value) (hx : a.eval x = .slice (some ⟨w.heap.size, 0, none⟩) 1 1) (h1 : u.oneCell' = true)
    (hn : n < 2147483648) (hby : bytes ≤ 1024) (hbel : Below B w0 w) (hB : B ≤ w.heap.size)
    (h : ∀ v' w', w'.ownsRow B e 1 v' (n + 1) (xs ++ [u]) → Below B w0 w' → wpList P ops Q rest (a.put o.dst v') w') : wpList P ops Q (o :: rest) a (w.alloc (.cells #[u] e)) := by
  obtain ⟨i0, hi, hz0, hz1, hz2⟩ := info_parts hrow
  have hmul : (n + 1) * bytes ≤ 2147483648 * 1024 := Nat.mul_le_mul (by omega) hby
  refine wpList_append_own _ hgd s x t ho B e i0 z 1 bytes ht hi hz0 hz1 hz2 hzs (by decide) v n xs hs (hown.alloc _) ⟨w.heap.size, 0, none⟩ 1 1 [u] hx rfl (cell_one_new _ _ _) (by simpa using h1) (by simp only [maxLen]; omega) (by omega) (by simp; omega) ?_
  intro v' w' hown' hg _
  refine h v' w' hown' ((hbel.alloc hB _).grown hg (by simp; omega) (fun k hk => (hown.lt k hk).1))
theorem make_cells {P : Program} (t e : TypeId) (z : Value) (bytes : Nat) (ht : P.underlying t = some (.slice e)) (hrow : (P.info? e).map (fun i => (i.zero, i.size, i.bytes)) = some (some z, 1, bytes))
    (hz1 : z.cells = #[z]) (n c : Nat) (hn : n ≤ c) (hc : c < 2147483648) (hby : bytes ≤ 1024) :
    ∃ C : Array Value, C.size = c ∧ (∀ j, j < c → C[j]? = some z) ∧ ∀ (kl kc : IntKind) (W : World), (Instr.makeSlice t (.int kl (n : Int)) (.int kc (c : Int))).run P W = .ok (.slice (some ⟨W.heap.size, 0, none⟩) n c) (W.alloc (.cells C e)) := by
  obtain ⟨i0, hi, hz0, hs, hb⟩ := info_parts hrow
  refine ⟨madeCells z.cells (c * i0.size), by simp [size_madeCells, hs], fun j hj => ?_, fun kl kc W => ?_⟩
  · simp [madeCells, hz1, hs, hj, Nat.mod_one]
  · have hmul : c * bytes ≤ 2147483648 * 1024 := Nat.mul_le_mul (by omega) hby
    have hm : (i0.bytes : Int) * (c : Int) ≤ 281474976710656 := by
      have : ((i0.bytes * c : Nat) : Int) ≤ 281474976710656 := by rw [hb, Nat.mul_comm]; omega
      rwa [Int.natCast_mul] at this
    have hr := run_make (P := P) W t e i0 z ht hi hz0 kl kc n c (by omega) (by omega) hm (by omega)
    simpa using hr
end Go.Proofs.YthdcahkedlijpaaGreat
namespace Go.Proofs.YthdcahkedlijpaaGreat
open Go.RowKit Go.Proofs.YthdcahkedlijpaaGreat.Am
theorem introw : (Tryz.prog.info? 3).map (fun i => (i.zero, i.size, i.bytes)) = some (some (.int .i64 0), 1, 8) := by kernel_rfl
namespace Am
end Am
end Go.Proofs.YthdcahkedlijpaaGreat
namespace Go.Proofs.YthdcahkedlijpaaGreat
open Go.RowKit
theorem Row.newAt (w : World) (k : IntKind) (e : TypeId) (m : Nat × Nat) (xs : List Int) (g : Nat) (hg : w.heap.size = g) : Row (w.alloc (.cells (xs.map (Value.int k)).toArray e m)) (g + 1) k (some ⟨g, 0, none⟩) xs := by
  subst hg
  exact Row.new w k e m xs
theorem Row.take {w : World} {B : Nat} {k : IntKind} {A : Option Addr} {xs : List Int} (h : Row w B k A xs) (n : Nat) : Row w B k A (xs.take n) := fun hn => by
  rw [List.length_take] at hn
  obtain ⟨b, off, e, hb, hc⟩ := h (by omega)
  refine ⟨b, off, e, hb, fun j hj => ?_⟩
  rw [List.length_take] at hj
  rw [hc j (by omega)]
  simp [List.getD, show j < n by omega]
theorem Row.drew {w : World} {B : Nat} {k : IntKind} {A : Option Addr} {xs : List Int} (h : Row w B k A xs) : Row w.drew B k A xs := h
structure Arg (w : World) (k : IntKind) (A : Option Addr) (len cap : Nat) (zs : List Int) : Prop where
  row : Row w w.heap.size k A (zs.take len)
  len_eq : (zs.take len).length = len
  le : len ≤ cap
  most : cap ≤ maxLen
  wf : ∀ n ∈ zs, (Lit.int k n).wf = true
theorem Arg.nil (w : World) (k : IntKind) : Arg w k none 0 0 [] := ⟨fun h => by simp at h, rfl, Nat.le_refl _, by simp [maxLen], fun _ h => by simp at h⟩
theorem Arg.mk' {w : World} {k : IntKind} {x : Addr} {len cap : Nat} {zs : List Int} (hl : len ≤ cap) (hm : cap ≤ maxLen) (hz : zs.length = cap)
    (hc : ∀ i, i < zs.length → w.cell? (x.add i) = some (.int k (zs.getD i 0))) (hwf : ∀ n ∈ zs, (Lit.int k n).wf = true) : Arg w k (some x) len cap zs := by
  have hlen : (zs.take len).length = len := by rw [List.length_take]; omega
  refine ⟨fun hp => ?_, hlen, hl, hm, hwf⟩
  obtain ⟨b, off, spot⟩ := x
  have h0 := hc 0 (by omega)
  have hspot : spot = none := by simpa [Addr.add] using World.cell?_spot h0
  subst hspot
  have hadd : ∀ i, (⟨b, off, none⟩ : Addr).add i = ⟨b, off + i, none⟩ := fun i => by unfold Addr.add; split <;> simp_all
  refine ⟨b, off, rfl, ?_, fun j hj => ?_⟩
  · have := World.block_lt_of_cell? w _ h0
    simpa [Addr.add] using this
  · rw [hlen] at hj
    have := hc j (by omega)
    rw [hadd] at this
    rw [this]
    simp [List.getD, hj]
theorem Arg.u8 {w : World} {A : Option Addr} {len cap : Nat} {zs : List Int} (h : Arg w .u8 A len cap zs) : ∀ c ∈ zs.take len, 0 ≤ c ∧ c < 256 := fun c hc => by
  have := bounds_u8 (h.wf c (List.mem_of_mem_take hc))
  omega
end Go.Proofs.YthdcahkedlijpaaGreat
namespace Go.Proofs.YthdcahkedlijpaaGreat
open Go.RowKit
section
variable {P : Program} {ops : Array Oper} {Q : Exit → Act → World → Prop} {md : Region.Mode} {E : World → World → Prop}
def wpAnyE (P : Program) (md : Region.Mode) (ops : Array Oper) (Q : Exit → Act → World → Prop) (E : World → World → Prop) : Nat → Array Bool → Act → World → Prop
  | 0, listed, a, w => Region.ready md ops listed = [] ∧ Q .normal a w
  | fuel + 1, listed, a, w =>
    (Region.ready md ops listed = [] → Q .normal a w) ∧
    ∀ i ∈ Region.ready md ops listed, wpOp P ops Q i (fun a' w' => E w w' ∧ wpAnyE P md ops Q E fuel (listed.setIfInBounds i true) a' w') a w
theorem wpAny_of_E : ∀ (fuel : Nat) (listed : Array Bool) (a : Act) (w : World), wpAnyE P md ops Q E fuel listed a w → wpAny P md ops Q fuel listed a w
  | 0, _, _, _, h => h
  | fuel + 1, _, _, _, h => ⟨h.1, fun i hi => wpOp_mono (fun a' w' h' => wpAny_of_E fuel _ a' w' h'.2) (h.2 i hi)⟩
theorem yields_later {o : Oper} {v : Value} {a : Act} {w w' : World} (htr : ∀ a b c, E a b → E b c → E a c) (he : E w w') (h : YieldsIf P ops (E w) o v a) : YieldsIf P ops (E w') o v a :=
  h.imp (fun ⟨hw, hv⟩ => ⟨hw, fun W hW => hv W (htr _ _ _ he hW)⟩) id
theorem wpAnyE_first (hrf : ∀ w, E w w) (htr : ∀ a b c, E a b → E b c → E a c) {i : Nat} {oi : Oper} {v : Value} (hi : ops[i]? = some oi) (hsel : ∀ (j : Nat) (o : Oper) cs b, ops[j]? = some o → o.op ≠ .select cs b)
    (hQ : ∀ c a w, Q (.panic c) (a.put oi.dst v) w → Q (.panic c) a w) :
    ∀ (fuel : Nat) (listed : Array Bool) (a : Act) (w : World),
      (∀ j oj, ops[j]? = some oj → j ≠ i → listed.getD j true = false → (∀ e ∈ oj.after, Region.binds md e = true → e.on ≠ i) → oi.apart ops oj = true) →
      i ∈ Region.ready md ops listed → YieldsIf P ops (E w) oi v a →
      wpAnyE P md ops Q E fuel (listed.setIfInBounds i true) (a.put oi.dst v) w → wpAnyE P md ops Q E (fuel + 1) listed a w := by
  intro fuel
  induction fuel with
  | zero =>
    intro listed a w _ hr hy H
    refine ⟨fun h => (by rw [h] at hr; cases hr), fun j hj => ?_⟩
    by_cases hji : j = i
    · subst hji; exact hy.wpOp hi (hrf w) ⟨hrf w, H⟩
    · have := ready_mono hj hji
      rw [H.1] at this
      cases this
  | succ fuel ih =>
    intro listed a w hfree hr hy H
    refine ⟨fun h => (by rw [h] at hr; cases hr), fun j hj => ?_⟩
    by_cases hji : j = i
    · subst hji; exact hy.wpOp hi (hrf w) ⟨hrf w, H⟩
    · have h1 := H.2 j (ready_mono hj hji)
      obtain ⟨hjun, oj, hoj, hall⟩ := mem_ready.1 hj
      have hnot : ∀ e ∈ oj.after, Region.binds md e = true → e.on ≠ i := fun e he hb heq => by
        have h1 := hall e he hb
        have h0 := (mem_ready.1 hr).1
        rw [heq] at h1
        rcases Nat.lt_or_ge i listed.size with h' | h'
        · simp [h'] at h0 h1; rw [h0] at h1; cases h1
        · simp [Array.getElem?_eq_none h'] at h1
      have h2 := wpOp_putIf hoj (hfree j oj hoj hji hjun hnot) (fun cs b => hsel i oi cs b hi) (fun cs b => hsel j oj cs b hoj) hQ hy h1
      have hfree' : ∀ k ok, ops[k]? = some ok → k ≠ i → (listed.setIfInBounds j true).getD k true = false →
          (∀ e ∈ ok.after, Region.binds md e = true → e.on ≠ i) → oi.apart ops ok = true := fun k ok hk hki hun hno => by
        refine hfree k ok hk hki ?_ hno
        by_cases hjk : j = k
        · subst hjk; exact hjun
        · rw [getD_set_ne true hjk] at hun; exact hun
      refine wpOp_mono (fun a' w' h3 => ⟨h3.2.1, ih (listed.setIfInBounds j true) a' w' hfree' (ready_mono hr (Ne.symm hji)) (yields_later htr h3.2.1 h3.1) ?_⟩) h2
      rw [Array.setIfInBounds_comm _ _ hji]
      exact h3.2.2
def SeqE (P : Program) (ops : Array Oper) (Q : Exit → Act → World → Prop) (E : World → World → Prop) : List (Nat × Bool) → Act → World → Prop
  | [], a, w => Q .normal a w
  | (i, true) :: r, a, w => ∃ o v, ops[i]? = some o ∧ YieldsIf P ops (E w) o v a ∧ SeqE P ops Q E r (a.put o.dst v) w
  | (i, false) :: r, a, w => wpOp P ops Q i (fun a' w' => E w w' ∧ SeqE P ops Q E r a' w') a w
def okOrder (md : Region.Mode) (ops : Array Oper) : List (Nat × Bool) → Array Bool → Bool
  | [], listed => (Region.ready md ops listed).isEmpty
  | (i, true) :: r, listed => Region.free md ops listed i && (Region.ready md ops listed).contains i && okOrder md ops r (listed.setIfInBounds i true)
  | (i, false) :: r, listed => Region.ready md ops listed == [i] && okOrder md ops r (listed.setIfInBounds i true)
theorem seqE_any (hrf : ∀ w, E w w) (htr : ∀ a b c, E a b → E b c → E a c) (hs : Region.noSelect ops = true) (hQ : ∀ (d : Option Tmp) (v : Value) c a w, Q (.panic c) (a.put d v) w → Q (.panic c) a w) :
    ∀ (r : List (Nat × Bool)) (fuel : Nat) (listed : Array Bool) (a : Act) (w : World), r.length ≤ fuel → okOrder md ops r listed = true → SeqE P ops Q E r a w → wpAnyE P md ops Q E fuel listed a w
  | [], fuel, listed, a, w, _, hok, h => by
    have hr : Region.ready md ops listed = [] := by simpa [okOrder] using hok
    cases fuel with
    | zero => exact ⟨hr, h⟩
    | succ fuel => exact ⟨fun _ => h, by rw [hr]; simp⟩
  | (i, true) :: r, 0, _, _, _, hl, _, _ => by simp at hl
  | (i, false) :: r, 0, _, _, _, hl, _, _ => by simp at hl
  | (i, true) :: r, fuel + 1, listed, a, w, hl, hok, h => by
    simp only [okOrder, Bool.and_eq_true] at hok
    obtain ⟨o, v, ho, hy, hrest⟩ := h
    exact wpAnyE_first hrf htr ho (Region.noSelect_spec hs) (fun c a w => hQ o.dst v c a w) fuel listed a w (Region.free_spec ho hok.1.1) (by simpa using hok.1.2) hy
      (seqE_any hrf htr hs hQ r fuel _ _ _ (by simpa using hl) hok.2 hrest)
  | (i, false) :: r, fuel + 1, listed, a, w, hl, hok, h => by
    simp only [okOrder, Bool.and_eq_true, beq_iff_eq] at hok
    refine ⟨fun h0 => (by rw [h0] at hok; cases hok.1), fun j hj => ?_⟩
    rw [hok.1] at hj
    obtain rfl : j = i := by simpa using hj
    exact wpOp_mono (fun a' w' h' => ⟨h'.1, seqE_any hrf htr hs hQ r fuel _ _ _ (by simpa using hl) hok.2 h'.2⟩) h
def Ext (w w' : World) : Prop := Below w.heap.size w w'
theorem Ext.refl (w : World) : Ext w w := Below.refl _ _
theorem Ext.trans {a b c : World} (h : Ext a b) (k : Ext b c) : Ext a c := Below.trans h (Below.mono k h.size)
theorem op_of {i : Nat} {o : Oper} (h : ops.toList[i]? = some o) : ops[i]? = some o := by rwa [Array.getElem?_toList] at h
theorem SeqE.take {i : Nat} {o : Oper} {r : List (Nat × Bool)} {a : Act} {w : World} {v : Value} (ho : ops.toList[i]? = some o) (hw : Region.wanted o (yielded ops a.tmps) = true) (hrun : ∀ W, Ext w W → (execOp a.eval o).run P W = .ok (.value v) W)
    (h : SeqE P ops Q Ext r (a.put o.dst v) w) : SeqE P ops Q Ext ((i, true) :: r) a w := ⟨o, v, op_of ho, .inl ⟨hw, hrun⟩, h⟩
theorem SeqE.skip {i : Nat} {o : Oper} {r : List (Nat × Bool)} {a : Act} {w : World} (ho : ops.toList[i]? = some o) (hw : Region.wanted o (yielded ops a.tmps) = false)
    (h : SeqE P ops Q Ext r (a.put o.dst undef) w) : SeqE P ops Q Ext ((i, true) :: r) a w := ⟨o, undef, op_of ho, .inr ⟨hw, rfl⟩, h⟩
theorem SeqE.pass {i : Nat} {o : Oper} {r : List (Nat × Bool)} {a : Act} {w : World} (ho : ops.toList[i]? = some o) (hw : Region.wanted o (yielded ops a.tmps) = false)
    (h : SeqE P ops Q Ext r (a.put o.dst undef) w) : SeqE P ops Q Ext ((i, false) :: r) a w :=
  wpOp_step (op_of ho) fun K' hK => by rw [hw]; exact hK _ _ ⟨Ext.refl _, h⟩
theorem SeqE.step {i : Nat} {o : Oper} {r : List (Nat × Bool)} {a : Act} {w : World} (ho : ops.toList[i]? = some o) (hw : Region.wanted o (yielded ops a.tmps) = true)
    (h : ∀ K' : Act → World → Prop, (∀ a w', Ext w w' → SeqE P ops Q Ext r a w' → K' a w') → Oper.wp P o a w K' Q) : SeqE P ops Q Ext ((i, false) :: r) a w :=
  wpOp_step (op_of ho) fun K' hK => by rw [hw]; exact h K' fun a w' he hs => hK a w' ⟨he, hs⟩
theorem SeqE.call {i : Nat} {o : Oper} {r : List (Nat × Bool)} {a : Act} {w : World} {f : FuncId} {args : Array Value} (ho : ops.toList[i]? = some o) (hw : Region.wanted o (yielded ops a.tmps) = true)
    (hrun : (execOp a.eval o).run P w = .ok (.enter f args) w) (h : Calls P f args w fun e w' => ∃ v, e = .returned v ∧ Ext w w' ∧ SeqE P ops Q Ext r (a.put o.dst v) w') : SeqE P ops Q Ext ((i, false) :: r) a w :=
  SeqE.step ho hw fun K' hK => by
    unfold Oper.wp
    rw [hrun]
    simp only [Oper.upon]
    refine h.mono ?_
    rintro e w' ⟨v, rfl, he, hs⟩
    exact hK _ _ he hs
theorem SeqE.done {a : Act} {w : World} (h : Q .normal a w) : SeqE P ops Q Ext [] a w := h
end
end Go.Proofs.YthdcahkedlijpaaGreat
namespace Go.Proofs.YthdcahkedlijpaaGreat
open Go.RowKit
section
variable {P : Program} {ops : Array Oper} {Q : Exit → Act → World → Prop} {B : Nat}
abbrev AnyE (P : Program) (ops : Array Oper) (Q : Exit → Act → World → Prop) (B : Nat) : Nat → Array Bool → Act → World → Prop := wpAnyE P .any ops Q (Below B)
theorem AnyE.take {i fuel : Nat} {o : Oper} {listed : Array Bool} {a : Act} {w : World} {v : Value} (hs : Region.noSelect ops = true) (ho : ops.toList[i]? = some o) (hf : Region.free .any ops listed i = true) (hr : (Region.ready .any ops listed).contains i = true)
    (hQ : ∀ (d : Tmp) (v : Value) c a w, Q (.panic c) (a.put (some d) v) w → Q (.panic c) a w) (hw : Region.wanted o (yielded ops a.tmps) = true) (hrun : ∀ W, Below B w W → (execOp a.eval o).run P W = .ok (.value v) W)
    (h : AnyE P ops Q B fuel (listed.setIfInBounds i true) (a.put o.dst v) w) : AnyE P ops Q B (fuel + 1) listed a w :=
  wpAnyE_first (fun _ => Below.refl _ _) (fun _ _ _ => Below.trans) (op_of ho) (Region.noSelect_spec hs) (fun c a w h => match o.dst, h with | none, h => h | some d, h => hQ d v c a w h) fuel listed a w (Region.free_spec (op_of ho) hf) (by simpa using hr) (.inl ⟨hw, hrun⟩) h
theorem AnyE.all {rs : List Nat} {fuel : Nat} {listed : Array Bool} {a : Act} {w : World} (hr : Region.ready .any ops listed = rs) (hne : rs.isEmpty = false)
    (h : ∀ i ∈ rs, wpOp P ops Q i (fun a' w' => Below B w w' ∧ AnyE P ops Q B fuel (listed.setIfInBounds i true) a' w') a w) : AnyE P ops Q B (fuel + 1) listed a w :=
  ⟨fun h0 => by rw [hr] at h0; subst h0; simp at hne, by rw [hr]; exact h⟩
theorem AnyE.done {listed : Array Bool} {a : Act} {w : World} (hr : Region.ready .any ops listed = []) (h : Q .normal a w) : AnyE P ops Q B 0 listed a w := ⟨hr, h⟩
end
end Go.Proofs.YthdcahkedlijpaaGreat
