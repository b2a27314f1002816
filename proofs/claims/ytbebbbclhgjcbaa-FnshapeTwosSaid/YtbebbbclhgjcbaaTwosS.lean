/- FnshapeTwos: what lies in memory when i blocks and k statements have been walked. -/
import Derived.Test.YtbebbbclhgjcbaaTwosP
import Derived.Test.YtbebbbclhgjcbaaMoreA
namespace Go.Proofs.Ytbebbbclhgjcbaa.two
open Go.RowKit Go.Proofs.Ytbebbbclhgjcbaa Go.Proofs.Ytbebbbclhgjcbaa.Am Go.Proofs.Ytbebbbclhgjcbaa.twin Go.Proofs.Ytbebbbclhgjcbaa.own Go.Proofs.Ytbebbbclhgjcbaa.more
set_option maxRecDepth 100000
set_option linter.unusedVariables false
set_option linter.unusedSectionVars false
def mutK (k : Nat) (b : BlkD) : BlkD := { b with st := (b.st.take k).map mutS ++ b.st.drop k }
def atF (i k q : Nat) (b : BlkD) : BlkD := if q < i then mutB b else if q = i then mutK k b else b
def atBs (bs : List BlkD) (i k : Nat) : List BlkD := bs.mapIdx (atF i k)
def stsAt (bs : List BlkD) (i : Nat) : List (List Value) := (bs[i]?.map BlkD.st).getD []
def borAt (bs : List BlkD) (i k j : Nat) : Int := acc (fun b => borB b j) (bs.take i) + acc (fun st => b2i (twos.isS st j)) ((stsAt bs i).take k)
def movAt (bs : List BlkD) (i k j : Nat) : Int := acc (fun b => movB b j) (bs.take i) + acc (fun st => cnt (mvS st) j) ((stsAt bs i).take k)
def cntV (F : Nat → Int) : Array Value := ((List.range 16).map fun j => Value.int .i64 (F j)).toArray
abbrev tA : TypeId := 61
theorem atBs_at (bs : List BlkD) (i k q : Nat) : (atBs bs i k)[q]? = bs[q]?.map (atF i k q) := List.getElem?_mapIdx
theorem atBs_len (bs : List BlkD) (i k : Nat) : (atBs bs i k).length = bs.length := List.length_mapIdx
theorem mutK_0 (b : BlkD) : mutK 0 b = b := rfl
theorem mutK_len (b : BlkD) : mutK b.st.length b = mutB b := by
  unfold mutK mutB
  rw [List.take_length, List.drop_length, List.append_nil]
theorem atBs_0 (bs : List BlkD) : atBs bs 0 0 = bs := by
  apply List.ext_getElem?
  intro q
  rw [atBs_at]
  cases bs[q]? with
  | none => rfl
  | some b =>
    show some (atF 0 0 q b) = some b
    unfold atF
    rw [if_neg (by omega)]
    split <;> rfl
theorem atBs_end (bs : List BlkD) {n : Nat} (hn : bs.length ≤ n) : atBs bs n 0 = bs.map mutB := by
  apply List.ext_getElem?
  intro q
  rw [atBs_at, List.getElem?_map]
  cases h : bs[q]? with
  | none => rfl
  | some b =>
    have := (List.getElem?_eq_some_iff.1 h).1
    show some (atF n 0 q b) = some (mutB b)
    unfold atF
    rw [if_pos (by omega)]
theorem atBs_roll {bs : List BlkD} {i : Nat} {b : BlkD} (h : bs[i]? = some b) : atBs bs i b.st.length = atBs bs (i + 1) 0 := by
  apply List.ext_getElem?
  intro q
  rw [atBs_at, atBs_at]
  cases hq : bs[q]? with
  | none => rfl
  | some x =>
    show some (atF i b.st.length q x) = some (atF (i + 1) 0 q x)
    unfold atF
    by_cases h1 : q < i
    · rw [if_pos h1, if_pos (by omega)]
    · by_cases h2 : q = i
      · subst h2
        rw [h] at hq
        cases hq
        rw [if_neg h1, if_pos rfl, if_pos (by omega), mutK_len]
      · rw [if_neg h1, if_neg h2, if_neg (by omega)]
        split
        · rw [mutK_0]
        · rfl
theorem mutK_succ {b : BlkD} {k : Nat} {el : List Value} (h : b.st[k]? = some el) : mutK (k + 1) b = { mutK k b with st := (mutK k b).st.set k (mutS el) } ∧ (mutK k b).st[k]? = some el := by
  have hl := (List.getElem?_eq_some_iff.1 h).1
  have e1 : ((b.st.take k).map mutS).length = k := by simp; omega
  have e2 : (mutK k b).st[k]? = some el := by
    show ((b.st.take k).map mutS ++ b.st.drop k)[k]? = _
    rw [List.getElem?_append_right (by omega), e1, Nat.sub_self, List.getElem?_drop, Nat.add_zero, h]
  refine ⟨?_, e2⟩
  unfold mutK
  congr 1
  show (b.st.take (k + 1)).map mutS ++ b.st.drop (k + 1) = ((b.st.take k).map mutS ++ b.st.drop k).set k (mutS el)
  rw [List.set_append_right _ _ (by omega), e1, Nat.sub_self, List.drop_eq_getElem_cons hl, List.set_cons_zero, List.take_add_one, h]
  simp
theorem atBs_set {bs : List BlkD} {i k : Nat} {b : BlkD} {el : List Value} (hb : bs[i]? = some b) (h : b.st[k]? = some el) : atBs bs i (k + 1) = (atBs bs i k).set i { mutK k b with st := (mutK k b).st.set k (mutS el) } := by
  apply List.ext_getElem?
  intro q
  rw [List.getElem?_set, atBs_at, atBs_at, atBs_len]
  by_cases hq : i = q
  · subst hq
    rw [if_pos rfl, if_pos (List.getElem?_eq_some_iff.1 hb).1, hb]
    show some (atF i (k + 1) i b) = _
    unfold atF
    rw [if_neg (by omega), if_pos rfl, (mutK_succ h).1]
  · rw [if_neg hq]
    cases bs[q]? with
    | none => rfl
    | some x =>
      show some (atF i (k + 1) q x) = some (atF i k q x)
      unfold atF
      rw [if_neg (Ne.symm hq), if_neg (Ne.symm hq)]
theorem atBs_same {bs : List BlkD} {i k : Nat} {b : BlkD} {el : List Value} (hb : bs[i]? = some b) (h : b.st[k]? = some el) (h2 : twos.twoB el = false) : atBs bs i (k + 1) = atBs bs i k := by
  rw [atBs_set hb h]
  apply List.ext_getElem?
  intro q
  rw [List.getElem?_set, atBs_len]
  by_cases hq : i = q
  · subst hq
    rw [if_pos rfl, if_pos (List.getElem?_eq_some_iff.1 hb).1, atBs_at, hb]
    show _ = some (atF i k i b)
    unfold atF
    rw [if_neg (by omega), if_pos rfl]
    have e2 := (mutK_succ h).2
    have e3 : mutS el = el := by unfold mutS; rw [h2]; rfl
    rw [e3]
    congr 1
    have e4 : (mutK k b).st.set k el = (mutK k b).st := by
      apply List.ext_getElem?
      intro q
      rw [List.getElem?_set]
      by_cases hq : k = q
      · subst hq
        rw [if_pos rfl, if_pos (List.getElem?_eq_some_iff.1 e2).1, e2]
      · rw [if_neg hq]
    rw [e4]
  · rw [if_neg hq]
theorem atF_own (i k q : Nat) (b : BlkD) : own2 (atF i k q b) = own2 b := by
  unfold atF
  split
  · rfl
  · split <;> rfl
theorem flat_mapIdx {α : Type} {f : α → List Nat} {g : Nat → α → α} (h : ∀ q x, f (g q x) = f x) : ∀ (l : List α), (l.mapIdx g).flatMap f = l.flatMap f := by
  intro l
  induction l generalizing g with
  | nil => rfl
  | cons x l ih =>
    rw [List.mapIdx_cons, List.flatMap_cons, List.flatMap_cons, h, ih fun q x => h (q + 1) x]
theorem atBs_own (bs : List BlkD) (i k : Nat) : (atBs bs i k).flatMap own2 = bs.flatMap own2 := flat_mapIdx (fun q x => atF_own i k q x) bs
/-! its kinds -/
theorem all2_len {st : List Value} (h : All2 Kd.ok kS26 st) : st.length = 26 := h.len.symm
theorem kinds_at {Dg : FnD} (k : Kinds Dg) (i m : Nat) : Kinds { Dg with bs := atBs Dg.bs i m } := by
  refine ⟨k.pk, k.lk, fun b hb => ?_⟩
  obtain ⟨q, hq⟩ := List.getElem?_of_mem hb
  rw [atBs_at] at hq
  cases hx : Dg.bs[q]? with
  | none => rw [hx] at hq; cases hq
  | some x =>
    rw [hx] at hq
    have hq : some (atF i m q x) = some b := hq
    cases hq
    have kx := k.bk x (List.mem_of_getElem? hx)
    have hm : ∀ st ∈ x.st.map mutS, All2 Kd.ok kS26 st := fun st hs => by
      obtain ⟨y, hy, rfl⟩ := List.mem_map.1 hs
      exact mut_kind (kx.2.2.1 y hy)
    unfold atF
    split
    · exact ⟨kx.1, kx.2.1, hm, kx.2.2.2⟩
    · split
      · refine ⟨kx.1, kx.2.1, fun st hs => ?_, kx.2.2.2⟩
        have hs : st ∈ (x.st.take m).map mutS ++ x.st.drop m := hs
        rcases List.mem_append.1 hs with hs | hs
        · obtain ⟨y, hy, rfl⟩ := List.mem_map.1 hs
          exact mut_kind (kx.2.2.1 y (List.mem_of_mem_take hy))
        · exact kx.2.2.1 st (List.mem_of_mem_drop hs)
      · exact kx
/-! the counters -/
theorem cntV_at (F : Nat → Int) {j : Nat} (hj : j < 16) : (cntV F)[j]? = some (.int .i64 (F j)) := by
  unfold cntV
  rw [List.getElem?_toArray, List.getElem?_map, List.getElem?_range hj]
  rfl
theorem cntV_set (F : Nat → Int) {j : Nat} (hj : j < 16) : (cntV F).setIfInBounds j (.int .i64 (F j + 1)) = cntV (bump F j) := by
  apply Array.ext_getElem?
  intro q
  rw [Array.getElem?_setIfInBounds]
  have hs : (cntV F).size = 16 := by simp [cntV]
  by_cases hq : j = q
  · subst hq
    rw [if_pos rfl, if_pos (by omega), cntV_at _ hj]
    unfold bump
    rw [decide_eq_true rfl]
    rfl
  · rw [if_neg hq]
    rcases Nat.lt_or_ge q 16 with h | h
    · rw [cntV_at _ h, cntV_at _ h]
      unfold bump
      rw [decide_eq_false (by omega), show b2i false = 0 from rfl, Int.add_zero]
    · rw [Array.getElem?_eq_none (by rw [hs]; exact h), Array.getElem?_eq_none (by simp [cntV]; exact h)]
theorem cntV_congr {F G : Nat → Int} (h : ∀ j, j < 16 → F j = G j) : cntV F = cntV G := by
  unfold cntV
  congr 1
  exact List.map_congr_left fun j hj => by rw [h j (List.mem_range.1 hj)]
theorem set_at {W : World} {b o : Nat} {v : Value} {C : Array Value} {T : TypeId} {fz : Nat × Nat} (hb : W.heap[b]? = some (.cells C T fz)) : (W.setCell ⟨b, o, none⟩ v).heap[b]? = some (.cells (C.setIfInBounds o v) T fz) := by
  simp [World.setCell, Array.getElem?_modify, hb]
theorem set_off {W : World} {b o k : Nat} {v : Value} (hk : k ≠ b) : (W.setCell ⟨b, o, none⟩ v).heap[k]? = W.heap[k]? := by
  simp [World.setCell, Array.getElem?_modify, Ne.symm hk]
structure Ap (w : World) (B H T gB gM : Nat) (Dg : FnD) : Prop where
  h0 : w.heap.size ≤ B
  h1 : H < B
  b : B ≤ T
  own : ∀ q ∈ blkOf Dg.lv ++ (blkOf Dg.bv ++ Dg.bs.flatMap own2), q < T
  t : T < gB
  m : gB < gM
structure Stt (w : World) (B H T gB gM : Nat) (D Dg : FnD) (i k : Nat) (G F : Nat → Int) (W : World) : Prop where
  own : OwnFn B W { Dg with bs := atBs Dg.bs i k }
  bH : Box W H more.tF (.int .i64 D.p) (.bool D.u) D.lv D.bv
  bT : Box W T more.tF (.int .i64 Dg.p) (.bool Dg.u) Dg.lv Dg.bv
  cb : W.heap[gB]? = some (.cells (cntV G) tA (0, 0))
  cm : W.heap[gM]? = some (.cells (cntV F) tA (0, 0))
  bel : Below w.heap.size w W
section
variable {w W : World} {B H T gB gM : Nat} {D Dg : FnD} {i k : Nat} {G F : Nat → Int}
theorem lt_of_at {W : World} {g : Nat} {o : Obj} (h : W.heap[g]? = some o) : g < W.heap.size := (Array.getElem?_eq_some_iff.1 h).1
theorem Stt.below {W' : World} (h : Stt w B H T gB gM D Dg i k G F W) (hb : Below W.heap.size W W') : Stt w B H T gB gM D Dg i k G F W' :=
  ⟨h.own.below hb, h.bH.below hb, h.bT.below hb, (hb.block _ (lt_of_at h.cb)).trans h.cb, (hb.block _ (lt_of_at h.cm)).trans h.cm, h.bel.trans (hb.mono h.bel.size)⟩
theorem Ap.in_ (a : Ap w B H T gB gM Dg) (i k : Nat) {q : Nat} (hq : q ∈ blkOf ({ Dg with bs := atBs Dg.bs i k } : FnD).lv ++ (blkOf ({ Dg with bs := atBs Dg.bs i k } : FnD).bv ++ ({ Dg with bs := atBs Dg.bs i k } : FnD).bs.flatMap own2)) : q < T := by
  have hq : q ∈ blkOf Dg.lv ++ (blkOf Dg.bv ++ (atBs Dg.bs i k).flatMap own2) := hq
  rw [atBs_own] at hq
  exact a.own q hq
theorem Stt.moved (h : Stt w B H T gB gM D Dg i k G F W) (a : Ap w B H T gB gM Dg) {j : Nat} (hj : j < 16) : Stt w B H T gB gM D Dg i k G (bump F j) (W.setCell ⟨gM, j, none⟩ (.int .i64 (F j + 1))) := by
  have a0 := a.h0; have a1 := a.h1; have a2 := a.b; have a3 := a.t; have a4 := a.m
  refine ⟨h.own.keep fun q hq => set_off (by have := a.in_ i k hq; omega), (set_off (by omega)).trans h.bH, (set_off (by omega)).trans h.bT, (set_off (by omega)).trans h.cb, ?_, h.bel.setCell (p := ⟨gM, j, none⟩) (by show w.heap.size ≤ gM; omega) _⟩
  rw [set_at h.cm, cntV_set F hj]
theorem Stt.borrowed (h : Stt w B H T gB gM D Dg i k G F W) (a : Ap w B H T gB gM Dg) {j : Nat} (hj : j < 16) : Stt w B H T gB gM D Dg i k (bump G j) F (W.setCell ⟨gB, j, none⟩ (.int .i64 (G j + 1))) := by
  have a0 := a.h0; have a1 := a.h1; have a2 := a.b; have a3 := a.t; have a4 := a.m
  refine ⟨h.own.keep fun q hq => set_off (by have := a.in_ i k hq; omega), (set_off (by omega)).trans h.bH, (set_off (by omega)).trans h.bT, ?_, (set_off (by omega)).trans h.cm, h.bel.setCell (p := ⟨gB, j, none⟩) (by show w.heap.size ≤ gB; omega) _⟩
  rw [set_at h.cb, cntV_set G hj]
theorem Stt.turned (h : Stt w B H T gB gM D Dg i k G F W) (a : Ap w B H T gB gM Dg) (kd : Kinds Dg) {b : BlkD} {el : List Value} {gs c : Nat} (hb : Dg.bs[i]? = some b) (hs : b.s = .slice (some ⟨gs, 0, none⟩) b.st.length c) (hm : b.st[k]? = some el) (h2 : twos.twoB el = true) :
    Stt w B H T gB gM D Dg i (k + 1) G F (W.setCells gs (k * 26 + 6) [.int .u8 2]) := by
  have a0 := a.h0; have a1 := a.h1; have a2 := a.b; have a3 := a.t; have a4 := a.m
  have eb : (atBs Dg.bs i k)[i]? = some (mutK k b) := by
    rw [atBs_at, hb]
    show some (atF i k i b) = _
    unfold atF
    rw [if_neg (by omega), if_pos rfl]
  have hl : (mutK k b).st.length = b.st.length := by
    have := (List.getElem?_eq_some_iff.1 hm).1
    show ((b.st.take k).map mutS ++ b.st.drop k).length = _
    simp
    omega
  obtain ⟨o1, o2, o3⟩ := OwnFn.setStm (o := 6) (vs := [.int .u8 2]) h.own (kinds_at kd i k) eb (by rw [hl]; exact hs) (mutK_succ hm).2 (by simp)
  have hgs : gs < T := by
    refine a.own gs (List.mem_append.2 (.inr (List.mem_append.2 (.inr (List.mem_flatMap.2 ⟨b, List.mem_of_getElem? hb, List.mem_append.2 (.inl ?_)⟩)))))
    rw [hs]
    simp [blkOf, Value.ownBlock]
  have hgH : H ≠ gs := by
    have : gs ∈ blkOf ({ Dg with bs := atBs Dg.bs i k } : FnD).lv ++ (blkOf ({ Dg with bs := atBs Dg.bs i k } : FnD).bv ++ ({ Dg with bs := atBs Dg.bs i k } : FnD).bs.flatMap own2) := by
      show gs ∈ blkOf Dg.lv ++ (blkOf Dg.bv ++ (atBs Dg.bs i k).flatMap own2)
      rw [atBs_own]
      refine List.mem_append.2 (.inr (List.mem_append.2 (.inr (List.mem_flatMap.2 ⟨b, List.mem_of_getElem? hb, List.mem_append.2 (.inl ?_)⟩))))
      rw [hs]
      simp [blkOf, Value.ownBlock]
    have := (h.own.in_ this).1
    omega
  refine ⟨?_, (o3 H hgH).trans h.bH, (o3 T (by omega)).trans h.bT, (o3 gB (by omega)).trans h.cb, (o3 gM (by omega)).trans h.cm, h.bel.trans (o2.mono (by omega))⟩
  have e : atBs Dg.bs i (k + 1) = (atBs Dg.bs i k).set i { mutK k b with st := (mutK k b).st.set k (putL el 6 [.int .u8 2]) } := by
    rw [atBs_set hb hm]
    have : mutS el = putL el 6 [.int .u8 2] := by unfold mutS; rw [h2]; rfl
    rw [this]
  rw [e]
  exact o1
theorem Stt.same (h : Stt w B H T gB gM D Dg i k G F W) {b : BlkD} {el : List Value} (hb : Dg.bs[i]? = some b) (hm : b.st[k]? = some el) (h2 : twos.twoB el = false) : Stt w B H T gB gM D Dg i (k + 1) G F W := by
  refine ⟨?_, h.bH, h.bT, h.cb, h.cm, h.bel⟩
  rw [atBs_same hb hm h2]
  exact h.own
theorem Stt.roll {b : BlkD} (h : Stt w B H T gB gM D Dg i b.st.length G F W) (hb : Dg.bs[i]? = some b) : Stt w B H T gB gM D Dg (i + 1) 0 G F W := by
  refine ⟨?_, h.bH, h.bT, h.cb, h.cm, h.bel⟩
  rw [← atBs_roll hb]
  exact h.own
theorem Stt.count (h : Stt w B H T gB gM D Dg i k G F W) {G' F' : Nat → Int} (h1 : ∀ j, j < 16 → G j = G' j) (h2 : ∀ j, j < 16 → F j = F' j) : Stt w B H T gB gM D Dg i k G' F' W :=
  ⟨h.own, h.bH, h.bT, cntV_congr h1 ▸ h.cb, cntV_congr h2 ▸ h.cm, h.bel⟩
end
/-! how the counters grow -/
section
variable {bs : List BlkD} {i k : Nat} {b : BlkD} {el : List Value}
theorem sts_at (hb : bs[i]? = some b) : stsAt bs i = b.st := by unfold stsAt; rw [hb]; rfl
theorem acc_take {α : Type} (f : α → Int) {l : List α} {k : Nat} {x : α} (h : l[k]? = some x) : acc f (l.take (k + 1)) = acc f (l.take k) + f x := by
  rw [List.take_add_one, h, acc_app]
  show _ + (f x + 0) = _
  omega
theorem bor_step (hb : bs[i]? = some b) (h : b.st[k]? = some el) (j : Nat) : borAt bs i (k + 1) j = borAt bs i k j + b2i (twos.isS el j) := by
  unfold borAt
  rw [sts_at hb, acc_take _ h]
  omega
theorem mov_step (hb : bs[i]? = some b) (h : b.st[k]? = some el) (j : Nat) : movAt bs i (k + 1) j = movAt bs i k j + cnt (mvS el) j := by
  unfold movAt
  rw [sts_at hb, acc_take _ h]
  omega
theorem bor_roll (hb : bs[i]? = some b) (j : Nat) : borAt bs (i + 1) 0 j = borAt bs i b.st.length j := by
  unfold borAt
  rw [sts_at hb, acc_take _ hb, List.take_length]
  show _ + borB b j + 0 = _
  unfold borB
  omega
theorem mov_roll (hb : bs[i]? = some b) (j : Nat) : movAt bs (i + 1) 0 j = movAt bs i b.st.length j + cnt (mvJ b) j := by
  unfold movAt
  rw [sts_at hb, acc_take _ hb, List.take_length]
  show _ + movB b j + 0 = _
  unfold movB
  omega
theorem at_end (bs : List BlkD) (j : Nat) : borAt bs bs.length 0 j = acc (fun b => borB b j) bs ∧ movAt bs bs.length 0 j = acc (fun b => movB b j) bs := by
  unfold borAt movAt
  rw [List.take_length]
  exact ⟨Int.add_zero _, Int.add_zero _⟩
theorem mvS_len (st : List Value) (j : Nat) : 0 ≤ cnt (mvS st) j ∧ cnt (mvS st) j ≤ ((2 : Nat) : Int) := by
  refine ⟨cnt_ge _ _, ?_⟩
  have h := cnt_srtU j ((if cellI st 7 = 3 then [cellI st 9] else []) ++ (if cellI st 12 = 3 then [cellI st 14] else []))
  have h2 := cnt_len ((if cellI st 7 = 3 then [cellI st 9] else []) ++ (if cellI st 12 = 3 then [cellI st 14] else [])) j
  have h3 : ((if cellI st 7 = 3 then [cellI st 9] else []) ++ (if cellI st 12 = 3 then [cellI st 14] else [])).length ≤ 2 := by
    rw [List.length_append]
    split <;> split <;> simp
  have one : ∀ x : Int, cnt [x] j ≤ 1 := fun x => cnt_len [x] j
  rw [mvS_is]
  split
  · split
    · split
      · have := one (cellI st 9); omega
      · rw [cnt_nil]; decide
    · split
      · omega
      · rw [cnt_nil]; decide
  · split
    · rw [cnt_nil]; decide
    · split
      · have := one (cellI st 22); omega
      · rw [cnt_nil]; decide
theorem small (hn : bs.length ≤ 24) (hs : ∀ b ∈ bs, b.st.length ≤ 24) (i k : Nat) {j : Nat} (hj : j < 16) : (0 ≤ borAt bs i k j ∧ borAt bs i k j ≤ 1000) ∧ (0 ≤ movAt bs i k j ∧ movAt bs i k j ≤ 2000) := by
  have hst : (stsAt bs i).length ≤ 24 := by
    unfold stsAt
    cases h : bs[i]? with
    | none => exact Nat.zero_le _
    | some b => exact hs b (List.mem_of_getElem? h)
  have l1 : ((stsAt bs i).take k).length ≤ 24 := by rw [List.length_take]; omega
  have l2 : (bs.take i).length ≤ 24 := by rw [List.length_take]; omega
  have a1 := acc_le (fun st => b2i (twos.isS st j)) 1 ((stsAt bs i).take k) fun st _ => b01 _
  have a2 := acc_le (fun st => cnt (mvS st) j) 2 ((stsAt bs i).take k) fun st _ => mvS_len st j
  have a3 := acc_le (fun b => borB b j) 24 (bs.take i) fun b hb => by
    have := acc_le (fun st => b2i (twos.isS st j)) 1 b.st fun st _ => b01 _
    have := hs b (List.mem_of_mem_take hb)
    unfold borB
    omega
  have a4 := acc_le (fun b => movB b j) 50 (bs.take i) fun b hb => by
    have := acc_le (fun st => cnt (mvS st) j) 2 b.st fun st _ => mvS_len st j
    have := hs b (List.mem_of_mem_take hb)
    have := mvJ_cnt b hj
    have := b01 (decide ((j : Int) ∈ movesJ b.pre b.ops b.post))
    unfold movB
    omega
  unfold borAt movAt
  omega
theorem mem_incr : ∀ (bs : List Bool) (i : Nat) (x : Int), x ∈ incr i bs → (i : Int) ≤ x ∧ x < i + bs.length
  | [], _, x, h => by cases h
  | b :: t, i, x, h => by
    have h : x ∈ (bif b then [(i : Int)] else []) ++ incr (i + 1) t := h
    rw [List.length_cons]
    rcases List.mem_append.1 h with h | h
    · cases b
      · cases h
      · have := List.mem_singleton.1 h; omega
    · have := mem_incr t (i + 1) x h; omega
theorem mvJ_in (b : BlkD) {x : Int} (h : x ∈ mvJ b) : 0 ≤ x ∧ x < 16 := by
  have := mem_incr _ _ _ h
  rw [boolsT_len] at this
  omega
theorem mvS_in {st : List Value} (h : All2 Kd.ok kS26 st) (hv : okStE.val st = true) {x : Int} (hx : x ∈ mvS st) : 0 ≤ x ∧ x < 16 := by
  have r9 := st_range h hv (c := 9) (by simp)
  have r14 := st_range h hv (c := 14) (by simp)
  have r22 := st_range h hv (c := 22) (by simp)
  have key : x = cellI st 9 ∨ x = cellI st 14 ∨ x = cellI st 22 := by
    rw [mvS_is] at hx
    split at hx
    · split at hx
      · split at hx
        · exact .inl (List.mem_singleton.1 hx)
        · cases hx
      · split at hx
        · have hx := srtU_mem.1 hx
          rcases List.mem_append.1 hx with hx | hx
          · split at hx
            · exact .inl (List.mem_singleton.1 hx)
            · cases hx
          · split at hx
            · exact .inr (.inl (List.mem_singleton.1 hx))
            · cases hx
        · cases hx
    · split at hx
      · cases hx
      · split at hx
        · exact .inr (.inr (List.mem_singleton.1 hx))
        · cases hx
  rcases key with rfl | rfl | rfl <;> omega
theorem isS_two {st : List Value} (h : twos.twoB st = true) (F : Nat → Int) (j : Nat) : bump F (cellI st 1) j = F j + b2i (twos.isS st j) := by
  unfold bump twos.isS
  rw [h, Bool.true_and]
theorem isS_no {st : List Value} (h : twos.twoB st = false) (j : Nat) : b2i (twos.isS st j) = 0 := by
  unfold twos.isS
  rw [h]
  rfl
theorem cnt_next {l : List Int} {n : Nat} {x : Int} (h : l[n]? = some x) (F : Nat → Int) (j : Nat) : bump (fun j => F j + cnt (l.take n) j) x j = F j + cnt (l.take (n + 1)) j := by
  rw [List.take_add_one, h, cnt_app]
  show F j + cnt (l.take n) j + b2i (decide (x = (j : Int))) = F j + (cnt (l.take n) j + (b2i (decide (x = (j : Int))) + 0))
  omega
end
end Go.Proofs.Ytbebbbclhgjcbaa.two
