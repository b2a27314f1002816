/- The library's functions that write numbers, as oracles of the machine: strconv.Itoa, strconv.FormatInt; and what they ask of the package variables. -/
import Derived.Test.YtnhnelgkcldkbaaGreatDoorAmC
import Derived.Test.YtnhnelgkcldkbaaGreatDoorShelfN
import Derived.Lib.AppendIntMem
namespace Go.Proofs.YtnhnelgkcldkbaaGreatDoor.Am
open Go.RowKit

/-- the first blocks of memory are the variables of the packages -/
structure TabOk (w : World) : Prop where
  size : 3 ≤ w.heap.size
  tab : Lib.TabIs Tryz.prog w "internal/strconv.uint64pow10" .u64 Lib.pow10Tab
theorem TabOk.here {w w0 : World} (k : TabOk w0) (h : ∀ b, b < 3 → w.heap[b]? = w0.heap[b]?) : Lib.TabIs Tryz.prog w "internal/strconv.uint64pow10" .u64 Lib.pow10Tab := by
  have e := k.tab
  unfold Lib.TabIs World.var? at *
  rw [show Tryz.prog.globalNamed "internal/strconv.uint64pow10" = some 2 by kernel_rfl, Option.bind_some] at *
  rw [h _ (by decide)]
  exact e

/-! digits -/
theorem decF_eq : ∀ f u acc, u < 10 ^ f → 0 < f → decF f u acc = Lib.decDigits u ++ acc
  | 0, _, _, _, h => by omega
  | f + 1, u, acc, h, _ => by
    rw [decF, Lib.decDigits]
    by_cases hu : u < 10
    · rw [dif_pos hu, show Nat.blt u 10 = true by simpa [Nat.blt_eq] using hu]
      rfl
    · rw [dif_neg hu, show Nat.blt u 10 = false from Bool.eq_false_iff.2 fun h => hu (by simpa [Nat.blt_eq] using h)]
      simp only [cond_false]
      have h1 : u / 10 < 10 ^ f := by rw [Nat.pow_succ] at h; omega
      have hf : 0 < f := by
        rcases Nat.eq_zero_or_pos f with rfl | hf
        · simp at h1; omega
        · exact hf
      rw [decF_eq f (u / 10) _ h1 hf]
      simp
abbrev itoaK (n : Int) : List UInt8 := decT n
theorem itoaK_eq (n : Int) (h0 : -9223372036854775808 ≤ n) (h1 : n ≤ 9223372036854775807) : itoaK n = Lib.itoa n := by
  unfold itoaK decT Lib.itoa
  cases n with
  | ofNat u =>
    have hu : u < 10 ^ 20 := by simp only [Int.ofNat_eq_natCast] at h1; omega
    simp only [decF_eq 20 u [] hu (by decide), List.append_nil]
    rw [if_neg (by simp only [Int.ofNat_eq_natCast]; omega)]
    rfl
  | negSucc u =>
    have hu : u + 1 < 10 ^ 20 := by omega
    simp only [decF_eq 20 (u + 1) [] hu (by decide), List.append_nil]
    rw [if_pos (by omega)]
    rfl
noncomputable def inI (n : Int) : Bool := Int.ble' (-9223372036854775808) n && Int.ble' n 9223372036854775807
theorem inI_iff {n : Int} (h : inI n = true) : -9223372036854775808 ≤ n ∧ n ≤ 9223372036854775807 := by
  unfold inI at h
  simpa [Int.ble'_eq_true] using h
noncomputable def itoaG (args : List A) : Option V := match args with
  | [.s (.int .i64 n)] => bif inI n then some (.a (.s (.str (itoaK n)))) else none
  | _ => none
noncomputable def fmtG (args : List A) : Option V := match args with
  | [.s (.int .i64 n), .s (.int .i64 b)] => bif inI n && b == 10 then some (.a (.s (.str (itoaK n)))) else none
  | _ => none
/-- the memory that w0 begins with, and what is known -/
abbrev base0 (w0 : World) {K : Know} {rho : Nat → Int} {sig : Nat → List UInt8} (ok : KnowOk K rho sig) : Base := Base.known K ok 3 w0
section
variable {w0 : World} {K : Know} {rho : Nat → Int} {sig : Nat → List UInt8} (ok : KnowOk K rho sig)
noncomputable def itoaO : Oracle := pureO 68 itoaG
noncomputable def fmtO : Oracle := pureO 175 fmtG
/-- numbers to digits -/
noncomputable def numO : Oracle := fun f a h fl => orR (itoaO f a h fl) (fmtO f a h fl)

theorem all2_one [Base] {r : Ren} {x : A} {vs : List Value} (h : All2 (VA r) [x] vs) : ∃ v, vs = [v] ∧ VA r x v := by
  match vs, h with
  | [v], h => exact ⟨v, rfl, h.1⟩
theorem sound_itoa (k : TabOk w0) : @Sound (base0 w0 ok) Tryz.prog itoaO := by
  letI : Base := base0 w0 ok
  refine sound_pure ⟨_, Tryz.func68, by kernel_rfl, by kernel_rfl⟩ fun args v hg r vs ha w hw => ?_
  unfold itoaG at hg
  split at hg
  · rename_i n
    obtain ⟨u, rfl, hu⟩ := all2_one ha
    cases hu
    cases hi : inI n with
    | false => rw [hi] at hg; cases hg
    | true =>
      rw [hi] at hg
      cases hg
      obtain ⟨h0, h1⟩ := inI_iff hi
      refine (Tryz.strconv_Itoa n h0 h1 w (k.here hw)).mono fun e w' ⟨e1, n', os, e2⟩ => ⟨_, e1, ?_, ?_⟩
      · show _ = _
        rw [itoaK_eq n h0 h1]
      · rw [e2]; exact Lib.below_grow _ _ (Nat.le_refl _) _ _
  · cases hg
theorem all2_two [Base] {r : Ren} {x y : A} {vs : List Value} (h : All2 (VA r) [x, y] vs) : ∃ v u, vs = [v, u] ∧ VA r x v ∧ VA r y u := by
  match vs, h with
  | [v, u], h => exact ⟨v, u, rfl, h.1, h.2.1⟩
theorem sound_fmt (k : TabOk w0) : @Sound (base0 w0 ok) Tryz.prog fmtO := by
  letI : Base := base0 w0 ok
  refine sound_pure ⟨_, Tryz.func175, by kernel_rfl, by kernel_rfl⟩ fun args v hg r vs ha w hw => ?_
  unfold fmtG at hg
  split at hg
  · rename_i n b
    obtain ⟨u, u', rfl, hu, hu'⟩ := all2_two ha
    cases hu
    cases hu'
    cases hi : (inI n && b == 10) with
    | false => rw [hi] at hg; cases hg
    | true =>
      rw [hi] at hg
      cases hg
      simp only [Bool.and_eq_true, beq_iff_eq] at hi
      obtain ⟨hi, rfl⟩ := hi
      obtain ⟨h0, h1⟩ := inI_iff hi
      refine (Tryz.strconv_FormatInt_10 n h0 h1 w (k.here hw)).mono fun e w' ⟨e1, n', os, e2⟩ => ⟨_, e1, ?_, ?_⟩
      · show _ = _
        rw [itoaK_eq n h0 h1]
      · rw [e2]; exact Lib.below_grow _ _ (Nat.le_refl _) _ _
  · cases hg
theorem sound_num (k : TabOk w0) : @Sound (base0 w0 ok) Tryz.prog numO := @sound_or (base0 w0 ok) _ _ _ (sound_itoa ok k) (sound_fmt ok k)
theorem fnOk : FnOk Tryz.prog (fnOf Tryz.prog) := by
  have hall : (Tryz.prog.funcs.toList.all fun F => !(F.name == "runtime.NumGoroutine")) = true := by kernel_rfl
  intro f F h
  refine ⟨h, ?_⟩
  have hm : F ∈ Tryz.prog.funcs.toList := by
    have h : Tryz.prog.funcs[f]? = some F := h
    rw [← Array.getElem?_toList] at h
    exact List.mem_of_getElem? h
  simpa using List.all_eq_true.1 hall F hm
theorem mixed : Tryz.prog.follows .mixedOrders = true := by kernel_rfl
/-- what the machine says of this program, with these oracles -/
theorem sound_runs {lib : Oracle} (hl : @Sound (base0 w0 ok) Tryz.prog lib) (n d : Nat) : @Sound (base0 w0 ok) Tryz.prog (@runs K (tyOf Tryz.prog) (fnOf Tryz.prog) lib n d) :=
  @runs_ok (base0 w0 ok) _ _ (@tyOf_ok (base0 w0 ok) Tryz.prog) _ fnOk _ hl mixed n d
end
end Go.Proofs.YtnhnelgkcldkbaaGreatDoor.Am
