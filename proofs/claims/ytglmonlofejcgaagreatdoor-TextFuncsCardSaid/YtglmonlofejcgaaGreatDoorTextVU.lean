/- The library's functions that write numbers, as oracles of the machine: strconv.Itoa, strconv.FormatInt; and what they ask of the package variables. What a law's listed variables give: the table of powers is what it is. Texts of places that are not written out: place.Text, and the reference's Written, as oracles of the machine. Texts of numbers, places and operands: what they are made of, and that each is the text of one alone. (No program in sight.) -/
import Derived.Test.YtglmonlofejcgaaGreatDoorAmC
import Derived.Test.YtglmonlofejcgaaGreatDoorShelfN
import Derived.Lib.AppendIntMem
import Derived.Test.YtglmonlofejcgaaGreatDoorRows
import Derived.WalkKit
import Derived.ProofKit
import Derived.LaidMore
import Derived.OpenShut
import Derived.ShutString
import Derived.ChangeOld
import Derived.Below
import Derived.Stop.Joined
import Derived.MakeChecks
set_option linter.unusedSectionVars false
namespace Go.Proofs.YtglmonlofejcgaaGreatDoor.Am
open Go.RowKit
structure gq (w : World) : Prop where
 size : 3 <= w.heap.size
 tab : Lib.TabIs Tryz.prog w "internal/strconv.uint64pow10" .u64 Lib.pow10Tab
theorem cell0 {w w0 : World} (h : ∀ b, b < 3 -> w.heap[b]? = w0.heap[b]?) (b i : Nat) (hb : b < 3) : w.cell? ⟨b, i, none⟩ = w0.cell? ⟨b, i, none⟩ := by
 simp only [World.cell?, h b hb]
theorem gq.here {w w0 : World} (k : gq w0) (h : ∀ b, b < 3 -> w.heap[b]? = w0.heap[b]?) : Lib.TabIs Tryz.prog w "internal/strconv.uint64pow10" .u64 Lib.pow10Tab := by
 have e := k.tab
 unfold Lib.TabIs World.var? at *
 rw [show Tryz.prog.globalNamed "internal/strconv.uint64pow10" = some 0 by kernel_rfl, Option.bind_some] at *
 rw [h _ (by decide)]
 exact e
theorem TY : ∀ f u acc, u < 10 ^ f -> 0 < f -> oN f u acc = Lib.decDigits u ++ acc
 | 0, _, _, _, h => by omega
 | f + 1, u, acc, h, _ => by
  rw [oN, Lib.decDigits]
  by_cases hu : u < 10
  ·rw [dif_pos hu, show Nat.blt u 10 = true by simpa [Nat.blt_eq] using hu]
   rfl
  ·rw [dif_neg hu, show Nat.blt u 10 = false from Bool.eq_false_iff.2 fun h => hu (by simpa [Nat.blt_eq] using h)]
   simp only [cond_false]
   have h1 : u / 10 < 10 ^ f := by rw [Nat.pow_succ] at h; omega
   have hf : 0 < f := by
    rcases Nat.eq_zero_or_pos f with rfl | hf
    ·simp at h1; omega
    ·exact hf
   rw [TY f (u / 10) _ h1 hf]
   simp
abbrev ZX (n : Int) : List UInt8 := dD n
theorem vJ (n : Int) (h0 : -9223372036854775808 <= n) (h1 : n <= 9223372036854775807) : ZX n = Lib.itoa n := by
 unfold ZX dD Lib.itoa
 cases n with
 | ofNat u =>
  have hu : u < 10 ^ 20 := by simp only [Int.ofNat_eq_natCast] at h1; omega
  simp only [TY 20 u [] hu (by decide), List.append_nil]
  rw [if_neg (by simp only [Int.ofNat_eq_natCast]; omega)]
  rfl
 | negSucc u =>
  have hu : u + 1 < 10 ^ 20 := by omega
  simp only [TY 20 (u + 1) [] hu (by decide), List.append_nil]
  rw [if_pos (by omega)]
  rfl
noncomputable def inI (n : Int) : Bool := Int.ble' (-9223372036854775808) n && Int.ble' n 9223372036854775807
theorem a0s {n : Int} (h : inI n = true) : -9223372036854775808 <= n /\ n <= 9223372036854775807 := by
 unfold inI at h
 simpa [Int.ble'_eq_true] using h
noncomputable def aij (args : List A) : Option V := match args with
 | [.s (.int .i64 n)] => bif inI n then some (.a (.s (.str (ZX n)))) else none
 | _ => none
noncomputable def fmtG (args : List A) : Option V := match args with
 | [.s (.int .i64 n), .s (.int .i64 b)] => bif inI n && b == 10 then some (.a (.s (.str (ZX n)))) else none
 | _ => none
abbrev base0 (w0 : World) {K : Know} {rho : Nat -> Int} {sig : Nat -> List UInt8} (ok : aG K rho sig) : Base := Base.known K ok 3 w0
section
variable {w0 : World} {K : Know} {rho : Nat -> Int} {sig : Nat -> List UInt8} (ok : aG K rho sig)
noncomputable def aip : aS := qj 36 aij
noncomputable def ala : aS := qj 101 fmtG
noncomputable def numO : aS := fun f a h fl => orR (aip f a h fl) (ala f a h fl)
theorem Dc [Base] {r : Ren} {x : A} {vs : List Value} (h : ak (VA r) [x] vs) : ∃ v, vs = [v] /\ VA r x v := by
 match vs, h with
 | [v], h => exact ⟨v, rfl, h.1⟩
theorem YE (k : gq w0) : @Sound (base0 w0 ok) Tryz.prog aip := by
 letI : Base := base0 w0 ok
 refine iV ⟨_, Tryz.func36, by kernel_rfl, by kernel_rfl⟩ fun args v hg r vs ha w hw => ?_
 unfold aij at hg
 split at hg
 ·rename_i n
  obtain ⟨u, rfl, hu⟩ := Dc ha
  cases hu
  cases hi : inI n with
  | false => rw [hi] at hg; cases hg
  | true =>
   rw [hi] at hg
   cases hg
   obtain ⟨h0, h1⟩ := a0s hi
   refine (Tryz.strconv_Itoa n h0 h1 w (k.here hw)).mono fun e w' ⟨e1, n', os, e2⟩ => ⟨_, e1, ?_, ?_⟩
   ·show _ = _
    rw [vJ n h0 h1]
   ·rw [e2]; exact Lib.below_grow _ _ (Nat.le_refl _) _ _
 ·cases hg
theorem Dp [Base] {r : Ren} {x y : A} {vs : List Value} (h : ak (VA r) [x, y] vs) : ∃ v u, vs = [v, u] /\ VA r x v /\ VA r y u := by
 match vs, h with
 | [v, u], h => exact ⟨v, u, rfl, h.1, h.2.1⟩
theorem a3G (k : gq w0) : @Sound (base0 w0 ok) Tryz.prog ala := by
 letI : Base := base0 w0 ok
 refine iV ⟨_, Tryz.func101, by kernel_rfl, by kernel_rfl⟩ fun args v hg r vs ha w hw => ?_
 unfold fmtG at hg
 split at hg
 ·rename_i n b
  obtain ⟨u, u', rfl, hu, hu'⟩ := Dp ha
  cases hu
  cases hu'
  cases hi : (inI n && b == 10) with
  | false => rw [hi] at hg; cases hg
  | true =>
   rw [hi] at hg
   cases hg
   simp only [Bool.and_eq_true, beq_iff_eq] at hi
   obtain ⟨hi, rfl⟩ := hi
   obtain ⟨h0, h1⟩ := a0s hi
   refine (Tryz.strconv_FormatInt_10 n h0 h1 w (k.here hw)).mono fun e w' ⟨e1, n', os, e2⟩ => ⟨_, e1, ?_, ?_⟩
   ·show _ = _
    rw [vJ n h0 h1]
   ·rw [e2]; exact Lib.below_grow _ _ (Nat.le_refl _) _ _
 ·cases hg
theorem OU (k : gq w0) : @Sound (base0 w0 ok) Tryz.prog numO := @dU (base0 w0 ok) _ _ _ (YE ok k) (a3G ok k)
theorem amA : a6W Tryz.prog (lZ Tryz.prog) := by
 have hall : (Tryz.prog.funcs.toList.all fun F => !(F.name == "runtime.NumGoroutine")) = true := by kernel_rfl
 intro f F h
 refine ⟨h, ?_⟩
 have hm : F ∈ Tryz.prog.funcs.toList := by
  have h : Tryz.prog.funcs[f]? = some F := h
  rw [<- Array.getElem?_toList] at h
  exact List.mem_of_getElem? h
 simpa using List.all_eq_true.1 hall F hm
theorem mixed : Tryz.prog.follows .mixedOrders = true := by kernel_rfl
theorem Bq {lib : aS} (hl : @Sound (base0 w0 ok) Tryz.prog lib) (n d : Nat) : @Sound (base0 w0 ok) Tryz.prog (@runs K (lM Tryz.prog) (lZ Tryz.prog) lib n d) :=
 @a0S (base0 w0 ok) _ _ (@qQ (base0 w0 ok) Tryz.prog) _ amA _ hl mixed n d
end
end Go.Proofs.YtglmonlofejcgaaGreatDoor.Am
namespace Go.Proofs.YtglmonlofejcgaaGreatDoor.Am
open Go.ChangeShapes Go.WideShapes Go.ChangeAt Go.RowKit
theorem own : ownKnob Tryz.prog.godebug = none := by kernel_rfl
theorem laidOut : laidOutB Tryz.prog = true := by kernel_rfl
def Reads (P : Program) (w : World) (n : String) (d : DataW Unit) : Prop :=
 ∃ g t cs fuel p, P.globalNamed n = some g /\ (P.globals[g]?).map (·.type) = some t /\ w.var? P n = some cs /\ DataW.trod (fun _ => ()) P w 0 (fun _ => true) false fuel t cs.toList = some (d, p)
theorem Ub {P : Program} {w : World} : ∀ {l : List (String × DataW Unit)} {ps : List MemPlace}, DataW.LaidVars P w l ps -> ∀ n d, (n, d) ∈ l -> Reads P w n d
 | [], _, _, _, _, hm => by cases hm
 | (_, _) :: r, ps, h, n, d, hm => by
  obtain ⟨g, t, cs, fuel, p, q, h1, h2, h3, h4, h5, _⟩ := h
  rcases List.mem_cons.1 hm with e | e
  ·cases e
   exact ⟨g, t, cs, fuel, p, h1, h2, h3, h4⟩
  ·exact Ub h5 n d e
theorem OY {P : Program} {w : World} {l : List (String × DataW Unit)} (hh : (l.all fun x => x.2.handleName?.isNone) = true) (h : laidMetH P l w) {n : String} {d : DataW Unit} (hm : (n, d) ∈ l) : Reads P w n d := by
 rw [MakeChecks.laidMetH_plain _ _ _ hh] at h
 obtain ⟨_, hv, _⟩ := h
 exact Ub hv n d hm
theorem aag {P : Program} {w : World} {n : String} {g : Nat} {cs : Array Value} (hg : P.globalNamed n = some g) (h : w.var? P n = some cs) : g < w.heap.size := by
 simp only [World.var?, hg, Option.bind_some] at h
 split at h
 ·rename_i he
  exact (Array.getElem?_eq_some_iff.1 he).1
 ·cases h
theorem alZ : Tryz.prog.globalNamed "internal/strconv.uint64pow10" = some 0 := by kernel_rfl
theorem alp : Tryz.prog.globalNamed "math/bits.deBruijn64tab" = some 3 := by kernel_rfl
theorem alL {w : World} {l : List (String × DataW Unit)} (hh : (l.all fun x => x.2.handleName?.isNone) = true)
  (h2 : ("internal/strconv.uint64pow10", Rows.laid_internal_strconv_uint64pow10) ∈ l) (h3 : ("math/bits.deBruijn64tab", Rows.laid_math_bits_deBruijn64tab) ∈ l) (h : laidMetH Tryz.prog l w) : gq w := by
 obtain ⟨g', t', cs, fuel, p, k1, k2, k3, k4⟩ := OY hh h h3
 have := aag alp k3
 refine ⟨by omega, ?_⟩
 obtain ⟨g', t', cs, fuel, p, k1, k2, k3, k4⟩ := OY hh h h2
 obtain rfl := Option.some.inj (alZ.symm.trans k1)
 obtain rfl := Option.some.inj ((show (Tryz.prog.globals[0]?).map (·.type) = some 174 by kernel_rfl).symm.trans k2)
 have e : (Rows.laid_internal_strconv_uint64pow10 : DataW Unit) = Lib.tabData .u64 Lib.pow10Tab := by kernel_rfl
 rw [e] at k4
 have hc := Lib.cells_of_tab Tryz.underlying174 Tryz.underlying163 (by kernel_rfl) (by kernel_rfl) k4
 unfold Lib.TabIs
 rw [k3, <- hc]
end Go.Proofs.YtglmonlofejcgaaGreatDoor.Am
namespace Go.Proofs.YtglmonlofejcgaaGreatDoor.Am
open Go.RowKit
def iH (l : Int) (d : Bool) (f : Int) : List UInt8 := (bif d then [42] else []) ++ (120 :: dD l) ++ (if f = 1 then [46, 49] else if f = 2 then [46, 50] else [])
def triples : List (Nat × Bool × Nat) := (List.range 16).flatMap fun l => [false, true].flatMap fun d => (List.range 3).map fun f => (l, d, f)
theorem Vk : ∀ (l : Nat) (d : Bool) (f : Nat), l < 16 -> f < 3 -> (l, d, f) ∈ triples := fun l d f hl hf => by
 simp only [triples, List.mem_flatMap, List.mem_map, List.mem_range]
 exact ⟨l, hl, d, by cases d <;> simp, f, hf, rfl⟩
noncomputable abbrev afy (f : FuncId) (t : Nat × Bool × Nat) : R := @runs Know.nought (lM Tryz.prog) (lZ Tryz.prog) numO 10 10 f [.g [.int .i64 t.1, .bool t.2.1, .int .u8 t.2.2]] ⟨[], 0⟩ 0
noncomputable def yC (t : Nat × Bool × Nat) : Bool :=
 vg (.t [.s (.str (iH t.1 t.2.1 t.2.2)), .s (.int .i64 0)]) (afy 70 t) &&
 vg (.a (.s (.str (iH t.1 t.2.1 t.2.2)))) (afy 113 t) && Nat.ble (iH t.1 t.2.1 t.2.2).length 21
theorem YA : triples.all yC = true := by kernel_rfl
theorem a5b {v : V} {r : R} (h : vg v r = true) : ∃ h', r = some (v, h') := by
 cases r with
 | none => cases h
 | some p =>
  obtain ⟨v', h'⟩ := p
  have h : V.same v' v = true := h
  letI : Base := Base.known Know.nought (aG.nought (fun _ => 0) (fun _ => [])) 0 default
  rw [V.jy h]
  exact ⟨h', rfl⟩
structure InP (l f : Int) : Prop where
 l0 : 0 <= l
 l1 : l <= 15
 f0 : 0 <= f
 f1 : f <= 2
theorem ED {l f : Int} (h : InP l f) (d : Bool) : yC (l.toNat, d, f.toNat) = true := by
 have := h.l0; have := h.l1; have := h.f0; have := h.f1
 exact List.all_eq_true.1 YA _ (Vk _ _ _ (by omega) (by omega))
theorem InP.toNat {l f : Int} (h : InP l f) : ((l.toNat : Nat) : Int) = l /\ ((f.toNat : Nat) : Int) = f := by
 have := h.l0; have := h.f0
 omega
theorem XC {l f : Int} (h : InP l f) (d : Bool) : (iH l d f).length <= 21 := by
 have h1 := ED h d
 obtain ⟨e1, e2⟩ := h.toNat
 unfold yC at h1
 simp only [Bool.and_eq_true, e1, e2] at h1
 exact Nat.le_of_ble_eq_true h1.2
abbrev Pl := Nat × Nat × Nat
def plT (p : Pl) : List S := [.xi .i64 p.1, .xe [(p.2.1, 1)], .xi .u8 p.2.2]
noncomputable def a6h (L : Lf) (p : Pl) : Bool := Option.rec false (fun a => Option.rec false (fun b => decide (0 <= a.1) && decide (a.2 <= 15) && decide (0 <= b.1) && decide (b.2 <= 2)) (nth L.iv (L.rep p.2.2))) (nth L.iv (L.rep p.1))
noncomputable def FW (L : Lf) (cells : List S) : Nat -> List Pl -> Option Nat
 | _, [] => none
 | j, p :: r => bif iw S.eqv ((plT p).map L.nS) cells && a6h L p then some (256 + j) else FW L cells (j + 1) r
noncomputable def plG (L : Lf) (n : Nat) (pls : List Pl) (mk : Nat -> V) (args : List A) : Option V := match args with
 | [.g cells] => ob (FW L cells n pls) fun h => some (mk h)
 | _ => none
def PlE (n : Nat) (pls : List Pl) (rho : Nat -> Int) (sig : Nat -> List UInt8) : Prop := ∀ j p, pls[j]? = some p -> InP (rho p.1) (rho p.2.2) -> sig (n + j) = iH (rho p.1) (decide (rho p.2.1 = 1)) (rho p.2.2)
theorem yX {L : Lf} {cells : List S} : ∀ {pls : List Pl} {n h : Nat}, FW L cells n pls = some h -> ∃ j p, pls[j]? = some p /\ h = 256 + (n + j) /\ (plT p).map L.nS = cells /\ a6h L p = true
 | [], _, _, e => by cases e
 | p :: r, n, h, e => by
  have e : (bif iw S.eqv ((plT p).map L.nS) cells && a6h L p then some (256 + n) else FW L cells (n + 1) r) = some h := e
  cases hc : (iw S.eqv ((plT p).map L.nS) cells && a6h L p) <;> rw [hc] at e <;> simp only [cond_true, cond_false] at e
  ·obtain ⟨j, q, h1, h2, h3⟩ := yX e
   exact ⟨j + 1, q, by simpa using h1, by omega, h3⟩
  ·cases e
   simp only [Bool.and_eq_true] at hc
   letI : Base := Base.known Know.nought (aG.nought (fun _ => 0) (fun _ => [])) 0 default
   exact ⟨0, p, rfl, rfl, JZ (fun _ _ => S.ug) hc.1, hc.2⟩
section
variable [Base] {L : Lf}
def S.sc (x : S) : Bool := match x with | .bool _ | .int .. | .xi .. | .xe _ | .xs _ | .str _ => true | _ => false
theorem VS.only {r : Ren} {x : S} (h : x.sc = true) {v v' : Value} (k : VS r x v) (k' : VS r x v') : v = v' := by
 cases x <;> simp [S.sc] at h <;> exact k.trans k'.symm
theorem aiK (kd : IntKind) (i : Nat) : (L.nS (.xi kd i)).sc = true := by
 show (S.ahY kd (L.rep i) (nth L.iv (L.rep i))).sc = true
 cases nth L.iv (L.rep i) with
 | none => rfl
 | some p =>
  show S.sc (bif decide (p.1 = p.2) then _ else _) = true
  cases decide (p.1 = p.2) <;> rfl
theorem akK (l : List (Nat × Int)) : (L.nS (.xe l)).sc = true := by
 show (S.afU _ (@CB L.DU (l.map fun p => (L.rep p.1, p.2)))).sc = true
 cases @CB L.DU (l.map fun p => (L.rep p.1, p.2)) <;> rfl
theorem SI {r : Ren} (h : L.Holds Base.rho Base.sig) {p : Pl} {us : List Value} (hu : ak (VS r) ((plT p).map L.nS) us) :
  us = [.int .i64 (Base.rho p.1), .bool (decide (Base.rho p.2.1 = 1)), .int .u8 (Base.rho p.2.2)] := by
 match us, hu with
 | [a, b, c], ⟨h1, h2, h3, _⟩ =>
  have e1 := VS.only (aiK _ _) h1 (Lf.X5 h (show VS r (.xi .i64 p.1) (.int .i64 (Base.rho p.1)) from rfl))
  have e2 := VS.only (akK _) h2 (Lf.X5 h (show VS r (.xe [(p.2.1, 1)]) (.bool (decide (Base.rho p.2.1 = 1))) by show _ = _; simp))
  have e3 := VS.only (aiK _ _) h3 (Lf.X5 h (show VS r (.xi .u8 p.2.2) (.int .u8 (Base.rho p.2.2)) from rfl))
  rw [e1, e2, e3]
theorem TS (h : L.Holds Base.rho Base.sig) {p : Pl} (hp : a6h L p = true) : InP (Base.rho p.1) (Base.rho p.2.2) := by
 unfold a6h at hp
 cases ha : nth L.iv (L.rep p.1) with
 | none => rw [ha] at hp; cases hp
 | some a =>
  cases hb : nth L.iv (L.rep p.2.2) with
  | none => rw [ha, hb] at hp; cases hp
  | some b =>
   simp only [ha, hb, Bool.and_eq_true, decide_eq_true_eq] at hp
   have h1 := h.iv _ _ ha
   have h2 := h.iv _ _ hb
   rw [Lf.Xo h] at h1 h2
   exact ⟨by omega, by omega, by omega, by omega⟩
end
theorem Y8 {w0 w : World} (k : gq w0) (hw : ∀ b, b < 3 -> w.heap[b]? = w0.heap[b]?) {l f : Int} (h : InP l f) (d : Bool) {F : FuncId} {v : V} (hv : vg v (afy F (l.toNat, d, f.toNat)) = true) :
  Calls Tryz.prog F #[.agg #[.int .i64 l, .bool d, .int .u8 f]] w fun e w' => ∃ u, e = .returned u /\ (∃ r', @VV (base0 w0 (aG.nought (fun _ => 0) (fun _ => []))) r' v u) /\ Below w.heap.size w w' := by
 obtain ⟨h', hr⟩ := a5b hv
 obtain ⟨e1, e2⟩ := h.toNat
 letI b0 : Base := base0 w0 (aG.nought (fun _ => 0) (fun _ => []))
 have hsz : 3 <= w.heap.size := by
  have hs := k.size
  have h3 : w0.heap[2]? = some w0.heap[2] := Array.getElem?_eq_getElem (by omega)
  have := (Array.getElem?_eq_some_iff.1 ((hw 2 (by decide)).trans h3)).1
  omega
 refine (gY w hsz hw (Bq (aG.nought (fun _ => 0) (fun _ => [])) (OU (aG.nought (fun _ => 0) (fun _ => [])) k) 10 10) (vs := [.agg #[.int .i64 l, .bool d, .int .u8 f]]) ?_ hr).mono fun e w' ⟨u, r', k1, k2, k3⟩ => ⟨u, k1, ⟨r', k2⟩, k3⟩
 refine ⟨⟨[.int .i64 l, .bool d, .int .u8 f], rfl, ?_, rfl, ?_, trivial⟩, trivial⟩
 ·show Value.int .i64 l = .int .i64 ((l.toNat : Nat) : Int)
  rw [e1]
 ·show Value.int .u8 f = .int .u8 ((f.toNat : Nat) : Int)
  rw [e2]
section
variable {w0 : World} {K : Know} {rho : Nat -> Int} {sig : Nat -> List UInt8} (ok : aG K rho sig)
noncomputable def plO (L : Lf) (n : Nat) (pls : List Pl) : aS := fun f a h fl =>
 orR (qj 70 (plG L n pls fun h => .t [.s (.xs [h]), .s (.int .i64 0)]) f a h fl)
  (qj 113 (plG L n pls fun h => .a (.s (.xs [h]))) f a h fl)
theorem OE {L : Lf} (hL : L.Holds rho sig) {n : Nat} {pls : List Pl} (hE : PlE n pls rho sig) (k : gq w0) {F : FuncId} (hF : dB Tryz.prog F) {mk : Nat -> V} (at' : List UInt8 -> V)
  (hrun : ∀ l d f, InP l f -> vg (at' (iH l d f)) (afy F (l.toNat, d, f.toNat)) = true)
  (hmk : ∀ r r' h t u, bI sig [h] = t -> @VV (base0 w0 (aG.nought (fun _ => 0) (fun _ => []))) r' (at' t) u -> @VV (base0 w0 ok) r (mk h) u) : @Sound (base0 w0 ok) Tryz.prog (qj F (plG L n pls mk)) := by
 letI : Base := base0 w0 ok
 refine iV hF fun args v hg r vs ha w hw => ?_
 unfold plG at hg
 split at hg
 ·rename_i cells
  obtain ⟨u, rfl, hu⟩ := Dc ha
  obtain ⟨us, rfl, hu⟩ := hu
  obtain ⟨q, hq, hg⟩ := aj hg
  cases hg
  obtain ⟨j, p, hj, rfl, rfl, hp⟩ := yX hq
  obtain rfl := SI hL hu
  have hin := TS hL hp
  refine (Y8 k hw hin _ (hrun _ _ _ hin)).mono fun e w' ⟨u, e1, ⟨r', e2⟩, e3⟩ => ⟨u, e1, hmk r r' _ _ u ?_ e2, e3⟩
  rw [gK]
  exact hE j p hj hin
 ·cases hg
theorem aaG {L : Lf} (hL : L.Holds rho sig) {n : Nat} {pls : List Pl} (hE : PlE n pls rho sig) (k : gq w0) : @Sound (base0 w0 ok) Tryz.prog (plO L n pls) := by
 have hT : ∀ r r' h t u, bI sig [h] = t -> @VV (base0 w0 (aG.nought (fun _ => 0) (fun _ => []))) r' (.t [.s (.str t), .s (.int .i64 0)]) u -> @VV (base0 w0 ok) r (.t [.s (.xs [h]), .s (.int .i64 0)]) u := by
  intro r r' h t u ht hu
  obtain ⟨us, rfl, hu⟩ := hu
  refine ⟨us, rfl, ?_⟩
  match us, hu with
  | [a, b], ⟨h1, h2, _⟩ => exact ⟨by subst ht; exact h1, h2, trivial⟩
 have hA : ∀ r r' h t u, bI sig [h] = t -> @VV (base0 w0 (aG.nought (fun _ => 0) (fun _ => []))) r' (.a (.s (.str t))) u -> @VV (base0 w0 ok) r (.a (.s (.xs [h]))) u := by
  intro r r' h t u ht hu
  subst ht
  exact hu
 have hr := fun l d f (h : InP l f) => ED h d
 simp only [yC, Bool.and_eq_true] at hr
 have e0 := fun l f (h : InP l f) => (h.toNat).1
 have e1 := fun l f (h : InP l f) => (h.toNat).2
 refine @dU (base0 w0 ok) _ _ _ (OE ok hL hE k ⟨_, Tryz.func70, by kernel_rfl, by kernel_rfl⟩ (fun t => .t [.s (.str t), .s (.int .i64 0)]) (fun l d f h => ?_) hT)
  (OE ok hL hE k ⟨_, Tryz.func113, by kernel_rfl, by kernel_rfl⟩ (fun t => .a (.s (.str t))) (fun l d f h => ?_) hA)
 ·have := (hr l d f h).1.1
  simp only [e0 l f h, e1 l f h] at this
  exact this
 ·have := (hr l d f h).1.2
  simp only [e0 l f h, e1 l f h] at this
  exact this
end
noncomputable def plX (cs : List Value) (pls : List Pl) : List (List UInt8) := pls.map fun p =>
 bif decide (0 <= dh cs p.1) && decide (dh cs p.1 <= 15) && decide (0 <= dh cs p.2.2) && decide (dh cs p.2.2 <= 2) then iH (dh cs p.1) (decide (dh cs p.2.1 = 1)) (dh cs p.2.2) else []
theorem Ic (cs : List Value) (pls : List Pl) : ∀ x, x ∈ plX cs pls -> x.length <= 21 := fun x hx => by
 simp only [plX, List.mem_map] at hx
 obtain ⟨p, _, rfl⟩ := hx
 cases hc : (decide (0 <= dh cs p.1) && decide (dh cs p.1 <= 15) && decide (0 <= dh cs p.2.2) && decide (dh cs p.2.2 <= 2)) with
 | false => simp
 | true =>
  simp only [Bool.and_eq_true, decide_eq_true_eq] at hc
  exact XC ⟨hc.1.1.1, hc.1.1.2, hc.1.2, hc.2⟩ _
theorem aiM {cs : List Value} {pls : List Pl} (hp : pls.all (fun p => decide (p.1 < cs.length) && decide (p.2.1 < cs.length) && decide (p.2.2 < cs.length)) = true) : PlE cs.length pls (dh (jF cs (plX cs pls))) (fD (jF cs (plX cs pls))) := by
 intro j p hj hin
 have hm := List.all_eq_true.1 hp p (List.mem_of_getElem? hj)
 simp only [Bool.and_eq_true, decide_eq_true_eq] at hm
 obtain ⟨⟨h1, h2⟩, h3⟩ := hm
 rw [mW h1, mW h3] at hin
 rw [mW h1, mW h2, mW h3]
 refine aiW ?_
 rw [plX, List.getElem?_map, hj]
 simp only [Option.map_some, Option.some.injEq]
 rw [show (decide (0 <= dh cs p.1) && decide (dh cs p.1 <= 15) && decide (0 <= dh cs p.2.2) && decide (dh cs p.2.2 <= 2)) = true by
  simp only [Bool.and_eq_true, decide_eq_true_eq]; exact ⟨⟨⟨hin.l0, hin.l1⟩, hin.f0⟩, hin.f1⟩]
 rfl
end Go.Proofs.YtglmonlofejcgaaGreatDoor.Am
namespace Go.Proofs.YtglmonlofejcgaaGreatDoor.Am
open Go.RowKit
def I64 (n : Int) : Prop := -9223372036854775808 <= n /\ n <= 9223372036854775807
def a4f (f : Int) : List UInt8 := if f = 1 then [46, 49] else if f = 2 then [46, 50] else []
theorem PI (l : Int) (d : Bool) (f : Int) : iH l d f = (bif d then [42] else []) ++ (120 :: (dD l ++ a4f f)) := by
 unfold iH a4f
 simp
structure Opd where
 k : Int
 n : Int
 l : Int
 d : Bool
 f : Int
def Opd.Ok (o : Opd) : Prop := (o.k = 1 /\ I64 o.n /\ o.l = 0 /\ o.d = false /\ o.f = 0) \/ ((o.k = 2 \/ o.k = 3) /\ o.n = 0 /\ InP o.l o.f)
def a1F : List UInt8 := [99, 111, 112, 121, 32]
def a1k : List UInt8 := [109, 111, 118, 101, 32]
def opT (o : Opd) : List UInt8 := if o.k = 1 then dD o.n else if o.k = 2 then a1F ++ iH o.l o.d o.f else a1k ++ iH o.l o.d o.f
structure Rv where
 k : Int
 a : Opd
 b : Opd
 op : Int
 bo : Int
 l : Int
 d : Bool
 f : Int
def Opd.no : Opd := ⟨0, 0, 0, false, 0⟩
def Rv.Ok (r : Rv) : Prop :=
 (r.k = 1 /\ r.a.Ok /\ r.b = Opd.no /\ r.op = 0 /\ r.bo = 0 /\ r.l = 0 /\ r.d = false /\ r.f = 0) \/
 (r.k = 2 /\ r.a.Ok /\ r.b.Ok /\ (1 <= r.op /\ r.op <= 6) /\ r.bo = 0 /\ r.l = 0 /\ r.d = false /\ r.f = 0) \/
 (r.k = 3 /\ r.a.Ok /\ r.b.Ok /\ r.op = 0 /\ r.bo = 0 /\ r.l = 0 /\ r.d = false /\ r.f = 0) \/
 (r.k = 4 /\ r.a = Opd.no /\ r.b = Opd.no /\ r.op = 0 /\ (1 <= r.bo /\ r.bo <= 3) /\ InP r.l r.f) \/
 (r.k = 5 /\ r.a = Opd.no /\ r.b = Opd.no /\ r.op = 0 /\ r.bo = 0 /\ InP r.l r.f)
def sgn (op : Int) : UInt8 := if op = 1 then 43 else if op = 2 then 45 else if op = 3 then 42 else if op = 4 then 47 else if op = 5 then 60 else 61
def ahB (k bo : Int) : List UInt8 := if k = 5 then [38, 114, 97, 119, 32] else if bo = 1 then [38] else if bo = 2 then [38, 109, 117, 116, 32] else [38, 116, 119, 111, 32]
def rvT (r : Rv) : List UInt8 :=
 if r.k = 1 then opT r.a
 else if r.k = 2 then opT r.a ++ (32 :: sgn r.op :: 32 :: opT r.b)
 else if r.k = 3 then 40 :: (opT r.a ++ (44 :: 32 :: (opT r.b ++ [41])))
 else ahB r.k r.bo ++ iH r.l r.d r.f
inductive Rv.As (r : Rv) : Prop where
 | use (h : r = ⟨1, r.a, Opd.no, 0, 0, 0, false, 0⟩) (a : r.a.Ok)
 | bin (h : r = ⟨2, r.a, r.b, r.op, 0, 0, false, 0⟩) (a : r.a.Ok) (b : r.b.Ok) (o : 1 <= r.op /\ r.op <= 6)
 | pair (h : r = ⟨3, r.a, r.b, 0, 0, 0, false, 0⟩) (a : r.a.Ok) (b : r.b.Ok)
 | ref (h : r = ⟨r.k, Opd.no, Opd.no, 0, r.bo, r.l, r.d, r.f⟩) (k : (r.k = 4 /\ 1 <= r.bo /\ r.bo <= 3) \/ (r.k = 5 /\ r.bo = 0)) (p : InP r.l r.f)
end Go.Proofs.YtglmonlofejcgaaGreatDoor.Am
