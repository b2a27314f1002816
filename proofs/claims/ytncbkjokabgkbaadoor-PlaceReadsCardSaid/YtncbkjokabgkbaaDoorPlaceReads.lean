/- PlaceReads: its answer at any text: true. -/
import Derived.Test.YtncbkjokabgkbaaDoorReadO
namespace Go.Proofs.YtncbkjokabgkbaaDoor.placeReads
open Go.RowKit Go.Proofs.YtncbkjokabgkbaaDoor.Am
set_option linter.unusedVariables false
set_option maxRecDepth 100000
def gs : List Gp := [(false, [.s])]
def T : List DRow := [(0, [.xi .i64 1, .xe [(2, 1)], .xi .u8 3], .xi .i64 4)]
def Ls : Lf := ⟨[(0, 100), (0, 15), (0, 1), (0, 2), (0, 12)], [], [], List.range 5, [], [], []⟩
def Ll : Lf := ⟨[(101, 9223372036854775807)], [], [], List.range 1, [], [], []⟩
theorem run_short : tells true (@runs (Ls.know [0]) (tyOf Tryd.prog) (fnOf Tryd.prog) (readO T) 20 15 5 [.s (.xs [256])] ⟨[], 0⟩ 0) = true := by kernel_rfl
theorem run_long : tells true (@runs (Ll.know [0]) (tyOf Tryd.prog) (fnOf Tryd.prog) (readO []) 20 15 5 [.s (.xs [256])] ⟨[], 0⟩ 0) = true := by kernel_rfl
section
variable (s : List UInt8) (l : Int) (d : Bool) (f e : Int)
def rho : Nat → Int
  | 0 => s.length
  | 1 => l
  | 2 => boolI d
  | 3 => f
  | 4 => e
  | _ => 0
def sig : Nat → List UInt8
  | 0 => s
  | _ => []
theorem lens : Lens [0] (rho s l d f e) (sig s) where
  all i hi := by
    match i with
    | 0 => exact absurd (by decide) hi
    | n + 1 => exact Nat.zero_le _
  ss i hi := by
    obtain rfl := List.mem_singleton.1 hi
    rfl
theorem to_range {rho : Nat → Int} {n i j : Nat} (hh : nth (List.range n) i = some j) : rho i = rho j := by
  rw [nth_eq, List.getElem?_eq_some_iff] at hh
  obtain ⟨_, hh⟩ := hh
  simp only [List.getElem_range] at hh
  rw [hh]
end
theorem walk {w : World} (k : TabOk w) (he : ErrOk w) {vs cs : List Value} (h : Gps gs vs cs) : Calls Tryd.prog 5 vs.toArray w fun e w' => e = .returned (.bool true) ∧ Below w.heap.size w w' := by
  match vs, h with
  | [v], ⟨us, cs', _, ⟨hu, hv⟩, _⟩ =>
  match us, hu with
  | [u], ⟨hu, _⟩ =>
  obtain ⟨b, rfl, hb⟩ := hu
  have hv : v = .string b := by
    rcases hv with ⟨e, _⟩ | ⟨_, e⟩
    · cases e
    · simpa using e.symm
  subst hv
  have eb : b = ⟨b.data.toList.toArray⟩ := by simp
  generalize b.data.toList = s at eb
  subst eb
  have hb : (s.length : Int) ≤ 9223372036854775807 := hb
  by_cases hs : s.length ≤ 100
  · obtain ⟨l, d, f, e, hc, h1, h2⟩ := read_all k he s hs
    have hi : 0 ≤ l ∧ l ≤ 15 ∧ 0 ≤ f ∧ f ≤ 2 ∧ 0 ≤ e ∧ e ≤ 12 := by
      rcases hc with ⟨rfl, hp, _⟩ | ⟨rfl, rfl, rfl, rfl⟩
      · exact ⟨hp.l0, hp.l1, hp.f0, hp.f1, by decide, by decide⟩
      · decide
    have hL : Ls.Holds (rho s l d f e) (sig s) := by
      refine ⟨fun i p hp => ?_, fun _ _ h => (by cases h), fun _ _ h => (by cases h), fun i j hh => to_range hh, fun _ _ h => (by cases h), fun _ _ h => (by cases h), fun _ h => (by cases h)⟩
      have hp : nth [((0 : Int), (100 : Int)), (0, 15), (0, 1), (0, 2), (0, 12)] i = some p := hp
      rw [nth_eq] at hp
      match i with
      | 0 => cases hp; show (0 : Int) ≤ (s.length : Int) ∧ (s.length : Int) ≤ 100; omega
      | 1 => cases hp; exact ⟨hi.1, hi.2.1⟩
      | 2 => cases hp; exact boolI_in _
      | 3 => cases hp; exact ⟨hi.2.2.1, hi.2.2.2.1⟩
      | 4 => cases hp; exact ⟨hi.2.2.2.2.1, hi.2.2.2.2.2⟩
      | n + 5 => cases hp
    have kk := lens s l d f e
    letI : Base := base0 w (Lf.ok hL kk)
    refine calls_bool w he.size (fun _ _ => rfl) (sound_runs _ (sound_read (Lf.ok hL kk) (T := T) ?_) 20 15) (args := [.s (.xs [256])]) (vs := [.string ⟨s.toArray⟩]) ⟨?_, trivial⟩ run_short
    · intro r hr
      obtain rfl := List.mem_singleton.1 hr
      refine ⟨l, d, f, e, ⟨h1, h2⟩, fun q => ⟨⟨rfl, ?_, rfl, trivial⟩, rfl⟩⟩
      show Value.bool d = .bool ([(2, (1 : Int))].any fun p => decide (rho s l d f e p.1 = p.2))
      simp only [List.any_cons, List.any_nil, Bool.or_false]
      exact congrArg _ (boolI_eq d).symm
    · show Value.string ⟨s.toArray⟩ = .string ⟨(strX (sig s) [256 + 0]).toArray⟩
      rw [strX_one]
      rfl
  · have hL : Ll.Holds (rho s 0 false 0 0) (sig s) := by
      refine ⟨fun i p hp => ?_, fun _ _ h => (by cases h), fun _ _ h => (by cases h), fun i j hh => to_range hh, fun _ _ h => (by cases h), fun _ _ h => (by cases h), fun _ h => (by cases h)⟩
      have hp : nth [((101 : Int), (9223372036854775807 : Int))] i = some p := hp
      rw [nth_eq] at hp
      match i with
      | 0 => cases hp; show (101 : Int) ≤ (s.length : Int) ∧ (s.length : Int) ≤ 9223372036854775807; omega
      | n + 1 => cases hp
    have kk := lens s 0 false 0 0
    letI : Base := base0 w (Lf.ok hL kk)
    refine calls_bool w he.size (fun _ _ => rfl) (sound_runs _ (sound_read (Lf.ok hL kk) (T := []) fun _ h => by cases h) 20 15) (args := [.s (.xs [256])]) (vs := [.string ⟨s.toArray⟩]) ⟨?_, trivial⟩ run_long
    show Value.string ⟨s.toArray⟩ = .string ⟨(strX (sig s) [256 + 0]).toArray⟩
    rw [strX_one]
    rfl
end Go.Proofs.YtncbkjokabgkbaaDoor.placeReads
