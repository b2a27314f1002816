/- place.Read and the reference's Read at any text: the same place, or none. -/
import Derived.Test.YtncbkjokabgkbaaDoorReadNo
import Derived.Test.YtncbkjokabgkbaaDoorReadR0
import Derived.Test.YtncbkjokabgkbaaDoorReadR1
import Derived.Test.YtncbkjokabgkbaaDoorReadR2
import Derived.Test.YtncbkjokabgkbaaDoorReadR3
import Derived.Test.YtncbkjokabgkbaaDoorReadR4
import Derived.Test.YtncbkjokabgkbaaDoorReadR5
namespace Go.Proofs.YtncbkjokabgkbaaDoor.Am
open Go.RowKit
set_option maxRecDepth 100000
set_option linter.unusedSectionVars false
set_option linter.unusedSimpArgs false

/-- a function of a text answers with this place and this number, whoever calls -/
def ReadsAs (w0 : World) (F : FuncId) (s : List UInt8) (l : Int) (d : Bool) (f e : Int) : Prop :=
  ∀ w : World, (∀ b, b < 3 → w.heap[b]? = w0.heap[b]?) → Calls Tryd.prog F #[.string ⟨s.toArray⟩] w fun x w' => x = .returned (.tuple #[.agg #[.int .i64 l, .bool d, .int .u8 f], .int .i64 e]) ∧ Below w.heap.size w w'
theorem readsAs_of {w0 : World} {K : Know} {rho : Nat → Int} {sig : Nat → List UInt8} (ok : KnowOk K rho sig) (h3 : 3 ≤ w0.heap.size) {O : Oracle} (hO : @Sound (base0 w0 ok) Tryd.prog O) {F : FuncId} {x : S} {s : List UInt8} (hx : @VS (base0 w0 ok) r0 x (.string ⟨s.toArray⟩))
    {l : Int} {d : Bool} {f e : Int} (hr : sayV (.t [.g [.int .i64 l, .bool d, .int .u8 f], .s (.int .i64 e)]) (O F [.s x] ⟨[], 0⟩ 0) = true) : ReadsAs w0 F s l d f e := by
  intro w hw
  obtain ⟨h', hr⟩ := sayV_some hr
  letI : Base := base0 w0 ok
  have hsz : 3 ≤ w.heap.size := by
    have h3' : w0.heap[2]? = some w0.heap[2] := Array.getElem?_eq_getElem (by omega)
    have := (Array.getElem?_eq_some_iff.1 ((hw 2 (by decide)).trans h3')).1
    omega
  refine (calls_flat w hsz hw hO (args := [.s x]) (vs := [.string ⟨s.toArray⟩]) ⟨hx, trivial⟩ hr).mono fun e w' ⟨u, r', k1, k2, k3⟩ => ⟨?_, k3⟩
  rw [k1]
  obtain ⟨us, rfl, k2⟩ := k2
  match us, k2 with
  | [a, b], ⟨⟨gs, ha, h1⟩, h2, _⟩ =>
    match gs, ha, h1 with
    | [a1, a2, a3], ha, ⟨e1, e2, e3, _⟩ =>
      have e1 : a1 = _ := e1
      have e2 : a2 = _ := e2
      have e3 : a3 = _ := e3
      have h2 : b = _ := h2
      rw [ha, e1, e2, e3, h2]

/-! the 96 texts -/
theorem triples_4 : triples = [(0, false, 0), (0, false, 1), (0, false, 2), (0, true, 0)] ++ [(0, true, 1), (0, true, 2), (1, false, 0), (1, false, 1)] ++ [(1, false, 2), (1, true, 0), (1, true, 1), (1, true, 2)] ++ [(2, false, 0), (2, false, 1), (2, false, 2), (2, true, 0)] ++ [(2, true, 1), (2, true, 2), (3, false, 0), (3, false, 1)] ++ [(3, false, 2), (3, true, 0), (3, true, 1), (3, true, 2)] ++ [(4, false, 0), (4, false, 1), (4, false, 2), (4, true, 0)] ++ [(4, true, 1), (4, true, 2), (5, false, 0), (5, false, 1)] ++ [(5, false, 2), (5, true, 0), (5, true, 1), (5, true, 2)] ++ [(6, false, 0), (6, false, 1), (6, false, 2), (6, true, 0)] ++ [(6, true, 1), (6, true, 2), (7, false, 0), (7, false, 1)] ++ [(7, false, 2), (7, true, 0), (7, true, 1), (7, true, 2)] ++ [(8, false, 0), (8, false, 1), (8, false, 2), (8, true, 0)] ++ [(8, true, 1), (8, true, 2), (9, false, 0), (9, false, 1)] ++ [(9, false, 2), (9, true, 0), (9, true, 1), (9, true, 2)] ++ [(10, false, 0), (10, false, 1), (10, false, 2), (10, true, 0)] ++ [(10, true, 1), (10, true, 2), (11, false, 0), (11, false, 1)] ++ [(11, false, 2), (11, true, 0), (11, true, 1), (11, true, 2)] ++ [(12, false, 0), (12, false, 1), (12, false, 2), (12, true, 0)] ++ [(12, true, 1), (12, true, 2), (13, false, 0), (13, false, 1)] ++ [(13, false, 2), (13, true, 0), (13, true, 1), (13, true, 2)] ++ [(14, false, 0), (14, false, 1), (14, false, 2), (14, true, 0)] ++ [(14, true, 1), (14, true, 2), (15, false, 0), (15, false, 1)] ++ [(15, false, 2), (15, true, 0), (15, true, 1), (15, true, 2)] := by kernel_rfl
theorem own_all : ∀ t ∈ triples, ownAt t = true := by
  have h : triples.all ownAt = true := by
    rw [triples_4]
    simp only [List.all_append, own0, own4, own8, own12, own16, own20, own24, own28, own32, own36, own40, own44, own48, own52, own56, own60, own64, own68, own72, own76, own80, own84, own88, own92, Bool.and_true]
  exact fun t ht => List.all_eq_true.1 h t ht
theorem triples_1 : triples = [(0, false, 0), (0, false, 1), (0, false, 2), (0, true, 0), (0, true, 1), (0, true, 2), (1, false, 0), (1, false, 1), (1, false, 2), (1, true, 0), (1, true, 1), (1, true, 2), (2, false, 0), (2, false, 1), (2, false, 2), (2, true, 0), (2, true, 1), (2, true, 2), (3, false, 0), (3, false, 1), (3, false, 2), (3, true, 0), (3, true, 1), (3, true, 2), (4, false, 0), (4, false, 1), (4, false, 2), (4, true, 0), (4, true, 1), (4, true, 2), (5, false, 0), (5, false, 1), (5, false, 2), (5, true, 0), (5, true, 1), (5, true, 2), (6, false, 0), (6, false, 1), (6, false, 2), (6, true, 0), (6, true, 1), (6, true, 2), (7, false, 0), (7, false, 1), (7, false, 2), (7, true, 0), (7, true, 1), (7, true, 2), (8, false, 0), (8, false, 1), (8, false, 2), (8, true, 0), (8, true, 1), (8, true, 2), (9, false, 0), (9, false, 1), (9, false, 2), (9, true, 0), (9, true, 1), (9, true, 2), (10, false, 0), (10, false, 1), (10, false, 2), (10, true, 0), (10, true, 1), (10, true, 2), (11, false, 0), (11, false, 1), (11, false, 2), (11, true, 0), (11, true, 1), (11, true, 2), (12, false, 0), (12, false, 1), (12, false, 2), (12, true, 0), (12, true, 1), (12, true, 2), (13, false, 0), (13, false, 1), (13, false, 2), (13, true, 0), (13, true, 1), (13, true, 2), (14, false, 0), (14, false, 1), (14, false, 2), (14, true, 0), (14, true, 1), (14, true, 2), (15, false, 0), (15, false, 1), (15, false, 2), (15, true, 0), (15, true, 1), (15, true, 2)] := by kernel_rfl
theorem ref_all : ∀ t ∈ triples, refAt t = true := by
  have h : triples.all refAt = true := by
    rw [triples_1]
    simp only [List.all_cons, List.all_nil, ref0, ref1, ref2, ref3, ref4, ref5, ref6, ref7, ref8, ref9, ref10, ref11, ref12, ref13, ref14, ref15, ref16, ref17, ref18, ref19, ref20, ref21, ref22, ref23, ref24, ref25, ref26, ref27, ref28, ref29, ref30, ref31, ref32, ref33, ref34, ref35, ref36, ref37, ref38, ref39, ref40, ref41, ref42, ref43, ref44, ref45, ref46, ref47, ref48, ref49, ref50, ref51, ref52, ref53, ref54, ref55, ref56, ref57, ref58, ref59, ref60, ref61, ref62, ref63, ref64, ref65, ref66, ref67, ref68, ref69, ref70, ref71, ref72, ref73, ref74, ref75, ref76, ref77, ref78, ref79, ref80, ref81, ref82, ref83, ref84, ref85, ref86, ref87, ref88, ref89, ref90, ref91, ref92, ref93, ref94, ref95, Bool.and_true]
  exact fun t ht => List.all_eq_true.1 h t ht
theorem read_yes {w0 : World} (k : TabOk w0) (h : ErrOk w0) {l f : Int} (hp : InP l f) (d : Bool) :
    ReadsAs w0 30 (placeT l d f) l d f 0 ∧ ReadsAs w0 31 (placeT l d f) l d f 0 := by
  have hl := hp.l0; have hl1 := hp.l1; have hf := hp.f0; have hf1 := hp.f1
  obtain ⟨e1, e2⟩ := hp.toNat
  have hm := triples_mem l.toNat d f.toNat (by omega) (by omega)
  have h1 := own_all _ hm
  have h2 := ref_all _ hm
  unfold ownAt readV at h1
  unfold refAt readV at h2
  simp only [e1, e2] at h1 h2
  let ok := KnowOk.nought (fun _ => 0) (fun _ => [])
  exact ⟨readsAs_of ok h.size (sound_runs ok (sound_both ok k h) 100 20) (x := .str (placeT l d f)) rfl h1,
    readsAs_of ok h.size (sound_runs ok (sound_both ok k h) 100 20) (x := .str (placeT l d f)) rfl h2⟩

/-! all others -/
section
variable (s : List UInt8)
def cs1 := (cutP s [42]).1
def cs2 := (cutS (cs1 s) [46, 49]).1
def cs3 := (cutS (cs1 s) [46, 50]).1
def cs4 := (cutP (cs2 s) [120]).1
def cs5 := (cutP (cs3 s) [120]).1
def cs6 := (cutP (cs1 s) [120]).1
def plOr (l : Int) (d : Bool) (f : Int) : List UInt8 := bif decide (0 ≤ l) && decide (l ≤ 15) then placeT l d f else if s = [] then [0] else []
def sigR : Nat → List UInt8
  | 0 => s
  | 1 => cs1 s
  | 2 => cs2 s
  | 3 => cs3 s
  | 4 => cs4 s
  | 5 => cs5 s
  | 6 => cs6 s
  | 7 => plOr s (atoiN (cs4 s)) (cutP s [42]).2 1
  | 8 => plOr s (atoiN (cs5 s)) (cutP s [42]).2 2
  | 9 => plOr s (atoiN (cs6 s)) (cutP s [42]).2 0
  | _ => []
def rhoR : Nat → Int
  | 0 => s.length
  | 1 => (cs1 s).length
  | 2 => (cs2 s).length
  | 3 => (cs3 s).length
  | 4 => (cs4 s).length
  | 5 => (cs5 s).length
  | 6 => (cs6 s).length
  | 10 => boolI (cutP s [42]).2
  | 11 => boolI (cutS (cs1 s) [46, 49]).2
  | 12 => boolI (cutS (cs1 s) [46, 50]).2
  | 13 => boolI (cutP (cs2 s) [120]).2
  | 14 => boolI (cutP (cs3 s) [120]).2
  | 15 => boolI (cutP (cs1 s) [120]).2
  | 16 => atoiN (cs4 s)
  | 17 => atoiN (cs5 s)
  | 18 => atoiN (cs6 s)
  | 19 => boolI (atoiB (cs4 s))
  | 20 => boolI (atoiB (cs5 s))
  | 21 => boolI (atoiB (cs6 s))
  | 22 => 1
  | 23 => 2
  | _ => 0
variable {s}
theorem cutP_len (l p : List UInt8) : (cutP l p).1.length ≤ l.length := by
  show (Lib.trimPrefix l p).length ≤ _
  unfold Lib.trimPrefix
  split
  · simp
  · exact Nat.le_refl _
theorem cutS_len (l p : List UInt8) : (cutS l p).1.length ≤ l.length := by
  show (Lib.trimSuffix l p).length ≤ _
  unfold Lib.trimSuffix
  split
  · simp
  · exact Nat.le_refl _
theorem boolI_in (b : Bool) : 0 ≤ boolI b ∧ boolI b ≤ 1 := by cases b <;> decide
theorem atoiN_in (l : List UInt8) : -9223372036854775808 ≤ atoiN l ∧ atoiN l ≤ 9223372036854775807 := by
  unfold atoiN
  split
  · rename_i v h; exact Lib.atoiAll_bounds h
  · exact Lib.atoiSat_bounds l
  · decide
theorem plOr_len (l : Int) (d : Bool) {f : Int} (h0 : 0 ≤ f) (h1 : f ≤ 2) : (plOr s l d f).length ≤ 21 := by
  unfold plOr
  cases hc : (decide (0 ≤ l) && decide (l ≤ 15))
  · simp only [cond_false]; split <;> simp
  · simp only [Bool.and_eq_true, decide_eq_true_eq] at hc
    exact placeT_len ⟨hc.1, hc.2, h0, h1⟩ d
def NoP (s : List UInt8) : Prop := ∀ l d f, InP l f → s ≠ placeT l d f
theorem plOr_ne (hn : NoP s) (l : Int) (d : Bool) {f : Int} (h0 : 0 ≤ f) (h1 : f ≤ 2) : s ≠ plOr s l d f := by
  unfold plOr
  cases hc : (decide (0 ≤ l) && decide (l ≤ 15))
  · simp only [cond_false]
    split
    · rename_i h; rw [h]; simp
    · assumption
  · simp only [Bool.and_eq_true, decide_eq_true_eq] at hc
    exact hn l d f ⟨hc.1, hc.2, h0, h1⟩
theorem plOr_in {l f : Int} (h : InP l f) (d : Bool) : plOr s l d f = placeT l d f := by
  unfold plOr
  rw [show (decide (0 ≤ l) && decide (l ≤ 15)) = true by simp [h.l0, h.l1]]
  rfl
theorem cs_len (h : s.length ≤ 100) : (cs1 s).length ≤ 100 ∧ (cs2 s).length ≤ 100 ∧ (cs3 s).length ≤ 100 ∧ (cs4 s).length ≤ 100 ∧ (cs5 s).length ≤ 100 ∧ (cs6 s).length ≤ 100 := by
  have h1 : (cs1 s).length ≤ 100 := Nat.le_trans (cutP_len _ _) h
  have h2 : (cs2 s).length ≤ 100 := Nat.le_trans (cutS_len _ _) h1
  have h3 : (cs3 s).length ≤ 100 := Nat.le_trans (cutS_len _ _) h1
  exact ⟨h1, h2, h3, Nat.le_trans (cutP_len _ _) h2, Nat.le_trans (cutP_len _ _) h3, Nat.le_trans (cutP_len _ _) h1⟩
theorem strX_bytes (sig : Nat → List UInt8) : ∀ l : List UInt8, strX sig (l.map UInt8.toNat) = l
  | [] => rfl
  | a :: l => by
    have h : Nat.blt a.toNat 256 = true := by rw [Nat.blt_eq]; exact a.toNat_lt
    simp only [List.map_cons, strX, h, cond_true, strX_bytes sig l, UInt8.ofNat_toNat]
    rfl
theorem lensR (_ : s.length ≤ 100) : Lens ssR (rhoR s) (sigR s) where
  all i hi := by
    match i with
    | 0 | 1 | 2 | 3 | 4 | 5 | 6 => exact absurd (by decide) hi
    | 7 => exact plOr_len _ _ (by decide) (by decide)
    | 8 => exact plOr_len _ _ (by decide) (by decide)
    | 9 => exact plOr_len _ _ (by decide) (by decide)
    | n + 10 => exact Nat.zero_le _
  ss i hi := by
    simp only [ssR, List.mem_cons, List.not_mem_nil, or_false] at hi
    rcases hi with rfl | rfl | rfl | rfl | rfl | rfl | rfl <;> rfl
theorem holdsR (h : s.length ≤ 100) (hn : NoP s) : noL.Holds (rhoR s) (sigR s) where
  iv i p hp := by
    obtain ⟨h1, h2, h3, h4, h5, h6⟩ := cs_len h
    have hp : nth ivR i = some p := hp
    rw [nth_eq] at hp
    match i with
    | 0 => cases hp; show (0 : Int) ≤ (s.length : Int) ∧ (s.length : Int) ≤ 1000; omega
    | 1 => cases hp; show (0 : Int) ≤ ((cs1 s).length : Int) ∧ ((cs1 s).length : Int) ≤ 1000; omega
    | 2 => cases hp; show (0 : Int) ≤ ((cs2 s).length : Int) ∧ ((cs2 s).length : Int) ≤ 1000; omega
    | 3 => cases hp; show (0 : Int) ≤ ((cs3 s).length : Int) ∧ ((cs3 s).length : Int) ≤ 1000; omega
    | 4 => cases hp; show (0 : Int) ≤ ((cs4 s).length : Int) ∧ ((cs4 s).length : Int) ≤ 1000; omega
    | 5 => cases hp; show (0 : Int) ≤ ((cs5 s).length : Int) ∧ ((cs5 s).length : Int) ≤ 1000; omega
    | 6 => cases hp; show (0 : Int) ≤ ((cs6 s).length : Int) ∧ ((cs6 s).length : Int) ≤ 1000; omega
    | 7 => cases hp; show (0 : Int) ≤ 0 ∧ (0 : Int) ≤ 21; decide
    | 8 => cases hp; show (0 : Int) ≤ 0 ∧ (0 : Int) ≤ 21; decide
    | 9 => cases hp; show (0 : Int) ≤ 0 ∧ (0 : Int) ≤ 21; decide
    | 10 => cases hp; exact boolI_in _
    | 11 => cases hp; exact boolI_in _
    | 12 => cases hp; exact boolI_in _
    | 13 => cases hp; exact boolI_in _
    | 14 => cases hp; exact boolI_in _
    | 15 => cases hp; exact boolI_in _
    | 16 => cases hp; exact atoiN_in _
    | 17 => cases hp; exact atoiN_in _
    | 18 => cases hp; exact atoiN_in _
    | 19 => cases hp; exact boolI_in _
    | 20 => cases hp; exact boolI_in _
    | 21 => cases hp; exact boolI_in _
    | 22 => cases hp; show (1 : Int) ≤ 1 ∧ (1 : Int) ≤ 1; decide
    | 23 => cases hp; show (2 : Int) ≤ 2 ∧ (2 : Int) ≤ 2; decide
    | 24 => cases hp; show (0 : Int) ≤ 0 ∧ (0 : Int) ≤ 0; decide
    | n + 25 => cases hp
  ne i j hh := by cases hh
  lt i j hh := by cases hh
  to i j hh := by
    have hh : nth (List.range 25) i = some j := hh
    rw [nth_eq, List.getElem?_eq_some_iff] at hh
    obtain ⟨_, hh⟩ := hh
    simp only [List.getElem_range] at hh
    rw [hh]
  st i l hh := by cases hh
  sn i l hh := by
    rcases List.mem_append.1 hh with hh | hh
    · obtain ⟨t, ht, e⟩ := List.mem_map.1 hh
      cases e
      rw [strX_bytes]
      simp only [triples, List.mem_flatMap, List.mem_map, List.mem_range] at ht
      obtain ⟨a, ha, b, _, c, hc, rfl⟩ := ht
      exact hn _ _ _ ⟨by show (0 : Int) ≤ (a : Int); omega, by show (a : Int) ≤ 15; omega, by show (0 : Int) ≤ (c : Int); omega, by show (c : Int) ≤ 2; omega⟩
    · simp only [List.mem_cons, Prod.mk.injEq, List.not_mem_nil, or_false] at hh
      rcases hh with ⟨rfl, rfl⟩ | ⟨rfl, rfl⟩ | ⟨rfl, rfl⟩
      · rw [show (263 : Nat) = 256 + 7 from rfl, strX_one]; exact plOr_ne hn _ _ (by decide) (by decide)
      · rw [show (264 : Nat) = 256 + 8 from rfl, strX_one]; exact plOr_ne hn _ _ (by decide) (by decide)
      · rw [show (265 : Nat) = 256 + 9 from rfl, strX_one]; exact plOr_ne hn _ _ (by decide) (by decide)
  cf m hm := by cases hm
theorem plE_R : PlE 7 plsR (rhoR s) (sigR s) := by
  intro j p hj hin
  match j with
  | 0 =>
    cases hj
    have e := boolI_eq (cutP s [42]).2
    show plOr s (atoiN (cs4 s)) (cutP s [42]).2 1 = placeT (atoiN (cs4 s)) (decide (boolI (cutP s [42]).2 = 1)) 1
    rw [e]
    exact plOr_in hin _
  | 1 =>
    cases hj
    have e := boolI_eq (cutP s [42]).2
    show plOr s (atoiN (cs5 s)) (cutP s [42]).2 2 = placeT (atoiN (cs5 s)) (decide (boolI (cutP s [42]).2 = 1)) 2
    rw [e]
    exact plOr_in hin _
  | 2 =>
    cases hj
    have e := boolI_eq (cutP s [42]).2
    show plOr s (atoiN (cs6 s)) (cutP s [42]).2 0 = placeT (atoiN (cs6 s)) (decide (boolI (cutP s [42]).2 = 1)) 0
    rw [e]
    exact plOr_in hin _
  | n + 3 => cases hj
theorem cutOkR (h : s.length ≤ 100) : CutOk (rhoR s) (sigR s) cT where
  p r hr hf := by
    simp only [cT, List.mem_cons, List.not_mem_nil, or_false] at hr
    rcases hr with rfl | rfl | rfl | rfl | rfl | rfl
    · exact ⟨rfl, rfl⟩
    · exact absurd hf (by decide)
    · exact absurd hf (by decide)
    · exact ⟨rfl, rfl⟩
    · exact ⟨rfl, rfl⟩
    · exact ⟨rfl, rfl⟩
  s r hr hf := by
    simp only [cT, List.mem_cons, List.not_mem_nil, or_false] at hr
    rcases hr with rfl | rfl | rfl | rfl | rfl | rfl
    · exact absurd hf (by decide)
    · exact ⟨rfl, rfl⟩
    · exact ⟨rfl, rfl⟩
    · exact absurd hf (by decide)
    · exact absurd hf (by decide)
    · exact absurd hf (by decide)
  len r hr := by
    obtain ⟨h1, h2, h3, h4, h5, h6⟩ := cs_len h
    simp only [cT, List.mem_cons, List.not_mem_nil, or_false] at hr
    rcases hr with rfl | rfl | rfl | rfl | rfl | rfl
    · exact Nat.le_trans h (by decide)
    · exact Nat.le_trans h1 (by decide)
    · exact Nat.le_trans h1 (by decide)
    · exact Nat.le_trans h2 (by decide)
    · exact Nat.le_trans h3 (by decide)
    · exact Nat.le_trans h1 (by decide)
theorem atoiOkR (h : s.length ≤ 100) : AtoiOk (rhoR s) (sigR s) aT where
  n r hr := by
    simp only [aT, List.mem_cons, List.not_mem_nil, or_false] at hr
    rcases hr with rfl | rfl | rfl <;> rfl
  b r hr := by
    simp only [aT, List.mem_cons, List.not_mem_nil, or_false] at hr
    rcases hr with rfl | rfl | rfl <;> rfl
  len r hr := by
    obtain ⟨h1, h2, h3, h4, h5, h6⟩ := cs_len h
    simp only [aT, List.mem_cons, List.not_mem_nil, or_false] at hr
    rcases hr with rfl | rfl | rfl
    · exact Nat.le_trans h4 (by decide)
    · exact Nat.le_trans h5 (by decide)
    · exact Nat.le_trans h6 (by decide)
theorem sound_orcR {w0 : World} (k : TabOk w0) (he : ErrOk w0) (h : s.length ≤ 100) {L : Lf} (hL : L.Holds (rhoR s) (sigR s)) : @Sound (base0 w0 (Lf.ok hL (lensR h))) Tryd.prog (orcR L) :=
  @sound_or (base0 w0 (Lf.ok hL (lensR h))) _ _ _ (sound_cutP _ (cutOkR h)) (@sound_or (base0 w0 (Lf.ok hL (lensR h))) _ _ _ (sound_cutS _ (cutOkR h)) (@sound_or (base0 w0 (Lf.ok hL (lensR h))) _ _ _ (sound_atoiX _ he (atoiOkR h)) (sound_pl _ hL plE_R k)))
theorem read_no {w0 : World} (k : TabOk w0) (he : ErrOk w0) (h : s.length ≤ 100) (hn : NoP s) :
    ReadsAs w0 30 s 0 false 0 12 ∧ ReadsAs w0 31 s 0 false 0 12 := by
  have hx : ∀ (L : Lf) (hL : L.Holds (rhoR s) (sigR s)), @VS (base0 w0 (Lf.ok hL (lensR h))) r0 (.xs [256]) (.string ⟨s.toArray⟩) := fun L hL => by
    show Value.string ⟨s.toArray⟩ = .string ⟨(strX (sigR s) [256 + 0]).toArray⟩
    rw [strX_one]
    rfl
  constructor
  · obtain ⟨L, hm, hL⟩ := spR.cover (holdsR h hn)
    exact readsAs_of (Lf.ok hL (lensR h)) he.size (sound_runs _ (sound_orcR k he h hL) 100 20) (hx L hL) (List.all_eq_true.1 own_no L hm)
  · have hL := holdsR h hn
    exact readsAs_of (Lf.ok hL (lensR h)) he.size (sound_runs _ (sound_orcR k he h hL) 100 20) (hx _ hL) ref_no
end
/-- every text: a place, or none -/
theorem read_all {w0 : World} (k : TabOk w0) (he : ErrOk w0) (s : List UInt8) (h : s.length ≤ 100) :
    ∃ l d f e, ((e = 0 ∧ InP l f ∧ s = placeT l d f) ∨ (e = 12 ∧ l = 0 ∧ d = false ∧ f = 0)) ∧
      ReadsAs w0 30 s l d f e ∧ ReadsAs w0 31 s l d f e := by
  by_cases hp : ∃ l d f, InP l f ∧ s = placeT l d f
  · obtain ⟨l, d, f, hp, rfl⟩ := hp
    exact ⟨l, d, f, 0, .inl ⟨rfl, hp, rfl⟩, read_yes k he hp d⟩
  · exact ⟨0, false, 0, 12, .inr ⟨rfl, rfl, rfl, rfl⟩, read_no k he h fun l d f hp' e => hp ⟨l, d, f, hp', e⟩⟩
end Go.Proofs.YtncbkjokabgkbaaDoor.Am
