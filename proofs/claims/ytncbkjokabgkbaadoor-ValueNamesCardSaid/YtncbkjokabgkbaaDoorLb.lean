/- The library's functions that this seat calls, as oracles of the machine: strconv.Atoi, strconv.Itoa; and what they ask of the package variables. -/
import Derived.Test.YtncbkjokabgkbaaDoorAmLib
import Derived.Test.YtncbkjokabgkbaaDoorShelfN
import Derived.Lib.AppendIntMem
namespace Go.Proofs.YtncbkjokabgkbaaDoor.Am
open Go.RowKit

/-- the first blocks of memory are the variables of the packages -/
structure TabOk (w : World) : Prop where
  size : 3 ≤ w.heap.size
  tab : Lib.TabIs Tryd.prog w "internal/strconv.uint64pow10" .u64 Lib.pow10Tab
structure ErrOk (w : World) : Prop where
  size : 3 ≤ w.heap.size
  syn : ∃ t p, w.cell? ⟨1, 0, none⟩ = some (.iface t p)
  rng : ∃ t p, w.cell? ⟨2, 0, none⟩ = some (.iface t p)
theorem cell0 {w w0 : World} (h : ∀ b, b < 3 → w.heap[b]? = w0.heap[b]?) (b i : Nat) (hb : b < 3) : w.cell? ⟨b, i, none⟩ = w0.cell? ⟨b, i, none⟩ := by
  simp only [World.cell?, h b hb]
theorem TabOk.here {w w0 : World} (k : TabOk w0) (h : ∀ b, b < 3 → w.heap[b]? = w0.heap[b]?) : Lib.TabIs Tryd.prog w "internal/strconv.uint64pow10" .u64 Lib.pow10Tab := by
  have e := k.tab
  unfold Lib.TabIs World.var? at *
  rw [show Tryd.prog.globalNamed "internal/strconv.uint64pow10" = some 0 by kernel_rfl, Option.bind_some] at *
  rw [h _ (by decide)]
  exact e

/-! digits -/
def decF : Nat → Nat → List UInt8 → List UInt8
  | 0, _, acc => acc
  | f + 1, u, acc => bif Nat.blt u 10 then UInt8.ofNat (48 + u) :: acc else decF f (u / 10) (UInt8.ofNat (48 + u % 10) :: acc)
theorem decF_eq : ∀ f u acc, u < 10 ^ f → 0 < f → decF f u acc = Lib.decDigits u ++ acc
  | 0, _, _, _, h => by omega
  | f + 1, u, acc, h, _ => by
    rw [decF, Lib.decDigits]
    by_cases hu : u < 10
    · rw [dif_pos hu, show Nat.blt u 10 = true by simpa [Nat.blt_eq] using hu]
      rfl
    · rw [dif_neg hu, show Nat.blt u 10 = false from Bool.eq_false_iff.2 fun h => hu (by simpa [Nat.blt_eq] using h)]
      simp only [cond_false]
      have h1 : u / 10 < 10 ^ f := by rw [Nat.pow_succ] at h; omega
      have hf : 0 < f := by
        rcases Nat.eq_zero_or_pos f with rfl | hf
        · simp at h1; omega
        · exact hf
      rw [decF_eq f (u / 10) _ h1 hf]
      simp
def itoaK (n : Int) : List UInt8 := match n with
  | .ofNat u => decF 20 u []
  | .negSucc u => 45 :: decF 20 (u + 1) []
theorem itoaK_eq (n : Int) (h0 : -9223372036854775808 ≤ n) (h1 : n ≤ 9223372036854775807) : itoaK n = Lib.itoa n := by
  unfold itoaK Lib.itoa
  cases n with
  | ofNat u =>
    have hu : u < 10 ^ 20 := by simp only [Int.ofNat_eq_natCast] at h1; omega
    simp only [decF_eq 20 u [] hu (by decide), List.append_nil]
    rw [if_neg (by simp only [Int.ofNat_eq_natCast]; omega)]
    rfl
  | negSucc u =>
    have hu : u + 1 < 10 ^ 20 := by omega
    simp only [decF_eq 20 (u + 1) [] hu (by decide), List.append_nil]
    rw [if_pos (by omega)]
    rfl
noncomputable def inI (n : Int) : Bool := Int.ble' (-9223372036854775808) n && Int.ble' n 9223372036854775807
theorem inI_iff {n : Int} (h : inI n = true) : -9223372036854775808 ≤ n ∧ n ≤ 9223372036854775807 := by
  unfold inI at h
  simpa [Int.ble'_eq_true] using h
noncomputable def itoaG (args : List A) : Option V := match args with
  | [.s (.int .i64 n)] => bif inI n then some (.a (.s (.str (itoaK n)))) else none
  | _ => none
noncomputable def atoiG (args : List A) : Option V := match args with
  | [.s (.str s)] => bif Nat.ble s.length 281474976710656 then (match Lib.atoiAll s with
    | .ok v => some (.t [.s (.int .i64 v), .s .nili])
    | .range => some (.t [.s (.int .i64 (Lib.atoiSat s)), .s .ifc])
    | _ => some (.t [.s (.int .i64 0), .s .ifc])) else none
  | _ => none
noncomputable def fmtG (args : List A) : Option V := match args with
  | [.s (.int .i64 n), .s (.int .i64 b)] => bif inI n && b == 10 then some (.a (.s (.str (itoaK n)))) else none
  | _ => none
/-- the memory that w0 begins with -/
abbrev base0 (w0 : World) : Base := ⟨3, fun b => w0.heap[b]?⟩
noncomputable def itoaO : Oracle := pureO 57 itoaG
noncomputable def atoiO : Oracle := pureO 63 atoiG
noncomputable def fmtO : Oracle := pureO 59 fmtG
/-- numbers to digits -/
noncomputable def numO : Oracle := fun f a h fl => orR (itoaO f a h fl) (fmtO f a h fl)
/-- .. and back -/
noncomputable def bothO : Oracle := fun f a h fl => orR (numO f a h fl) (atoiO f a h fl)

theorem all2_one {r : Ren} {x : A} {vs : List Value} (h : All2 (VA r) [x] vs) : ∃ v, vs = [v] ∧ VA r x v := by
  match vs, h with
  | [v], h => exact ⟨v, rfl, h.1⟩
theorem sound_itoa {w0 : World} (k : TabOk w0) : @Sound (base0 w0) Tryd.prog itoaO := by
  letI : Base := base0 w0
  refine sound_pure ⟨_, Tryd.func57, by kernel_rfl, by kernel_rfl⟩ fun args v hg r vs ha w hw => ?_
  unfold itoaG at hg
  split at hg
  · rename_i n
    obtain ⟨u, rfl, hu⟩ := all2_one ha
    cases hu
    cases hi : inI n with
    | false => rw [hi] at hg; cases hg
    | true =>
      rw [hi] at hg
      cases hg
      obtain ⟨h0, h1⟩ := inI_iff hi
      refine (Tryd.strconv_Itoa n h0 h1 w (k.here hw)).mono fun e w' ⟨e1, n', os, e2⟩ => ⟨_, e1, ?_, ?_⟩
      · show _ = _
        rw [itoaK_eq n h0 h1]
      · rw [e2]; exact Lib.below_grow _ _ (Nat.le_refl _) _ _
  · cases hg
theorem all2_two {r : Ren} {x y : A} {vs : List Value} (h : All2 (VA r) [x, y] vs) : ∃ v u, vs = [v, u] ∧ VA r x v ∧ VA r y u := by
  match vs, h with
  | [v, u], h => exact ⟨v, u, rfl, h.1, h.2.1⟩
theorem sound_fmt {w0 : World} (k : TabOk w0) : @Sound (base0 w0) Tryd.prog fmtO := by
  letI : Base := base0 w0
  refine sound_pure ⟨_, Tryd.func59, by kernel_rfl, by kernel_rfl⟩ fun args v hg r vs ha w hw => ?_
  unfold fmtG at hg
  split at hg
  · rename_i n b
    obtain ⟨u, u', rfl, hu, hu'⟩ := all2_two ha
    cases hu
    cases hu'
    cases hi : (inI n && b == 10) with
    | false => rw [hi] at hg; cases hg
    | true =>
      rw [hi] at hg
      cases hg
      simp only [Bool.and_eq_true, beq_iff_eq] at hi
      obtain ⟨hi, rfl⟩ := hi
      obtain ⟨h0, h1⟩ := inI_iff hi
      refine (Tryd.strconv_FormatInt_10 n h0 h1 w (k.here hw)).mono fun e w' ⟨e1, n', os, e2⟩ => ⟨_, e1, ?_, ?_⟩
      · show _ = _
        rw [itoaK_eq n h0 h1]
      · rw [e2]; exact Lib.below_grow _ _ (Nat.le_refl _) _ _
  · cases hg
theorem sound_num {w0 : World} (k : TabOk w0) : @Sound (base0 w0) Tryd.prog numO := @sound_or (base0 w0) _ _ _ (sound_itoa k) (sound_fmt k)
theorem sound_atoi {w0 : World} (k : ErrOk w0) : @Sound (base0 w0) Tryd.prog atoiO := by
  letI : Base := base0 w0
  refine sound_pure ⟨_, Tryd.func63, by kernel_rfl, by kernel_rfl⟩ fun args v hg r vs ha w hw => ?_
  unfold atoiG at hg
  split at hg
  · rename_i s
    obtain ⟨u, rfl, hu⟩ := all2_one ha
    cases hu
    cases hi : Nat.ble s.length 281474976710656 with
    | false => rw [hi] at hg; cases hg
    | true =>
      rw [hi] at hg
      have hs : (⟨s.toArray⟩ : ByteArray).size ≤ 281474976710656 := by
        show s.toArray.size ≤ _
        simpa using Nat.le_of_ble_eq_true hi
      simp only [cond_true] at hg
      obtain ⟨t1, p1, c1⟩ := k.syn
      obtain ⟨t2, p2, c2⟩ := k.rng
      rw [← cell0 hw _ _ (by decide)] at c1 c2
      split at hg <;> rename_i hv <;> cases hg
      · refine (Tryd.strconv_Atoi_ok ⟨s.toArray⟩ (by omega) _ (by simpa using hv) w).mono fun e w' ⟨e1, e2⟩ => ⟨_, e1, ⟨_, rfl, rfl, rfl, trivial⟩, ?_⟩
        rcases e2 with rfl | ⟨t, rfl⟩
        · exact Below.refl _ _
        · exact ⟨rfl, rfl, rfl, by rw [Lib.bytesWorld_size]; omega, fun k hk => Lib.bytesWorld_at_old w 5 t k (by omega)⟩
      · exact (Tryd.strconv_Atoi_range ⟨s.toArray⟩ hs (by simpa using hv) _ w c2 (.inr ⟨_, _, rfl⟩)).mono fun e w' ⟨N, e1, _, _, e2⟩ => ⟨_, e1, ⟨_, rfl, by simp [VA, VS], ⟨_, _, rfl⟩, trivial⟩, e2⟩
      · refine (Tryd.strconv_Atoi_syntax ⟨s.toArray⟩ hs ?_ _ w c1 (.inr ⟨_, _, rfl⟩)).mono fun e w' ⟨N, e1, _, _, e2⟩ => ⟨_, e1, ⟨_, rfl, rfl, ⟨_, _, rfl⟩, trivial⟩, e2⟩
        show noNum (Lib.atoiAll s.toArray.toList) = true
        rw [show s.toArray.toList = s by simp]
        cases hx : Lib.atoiAll s with
        | ok v => exact absurd hx (by intro e; simp_all)
        | range => exact absurd hx (by intro e; simp_all)
        | _ => rfl
  · cases hg

theorem sound_both {w0 : World} (k : TabOk w0) (h : ErrOk w0) : @Sound (base0 w0) Tryd.prog bothO := @sound_or (base0 w0) _ _ _ (sound_num k) (sound_atoi h)
theorem fnOk : FnOk Tryd.prog (fnOf Tryd.prog) := by
  have hall : (Tryd.prog.funcs.toList.all fun F => !(F.name == "runtime.NumGoroutine")) = true := by kernel_rfl
  intro f F h
  refine ⟨h, ?_⟩
  have hm : F ∈ Tryd.prog.funcs.toList := by
    have h : Tryd.prog.funcs[f]? = some F := h
    rw [← Array.getElem?_toList] at h
    exact List.mem_of_getElem? h
  simpa using List.all_eq_true.1 hall F hm
theorem mixed : Tryd.prog.follows .mixedOrders = true := by kernel_rfl
/-- what the machine says of this program, with these oracles -/
theorem sound_runs {w0 : World} {lib : Oracle} (hl : @Sound (base0 w0) Tryd.prog lib) (n d : Nat) : @Sound (base0 w0) Tryd.prog (runs (tyOf Tryd.prog) (fnOf Tryd.prog) lib n d) :=
  @runs_ok (base0 w0) _ _ (@tyOf_ok (base0 w0) Tryd.prog) _ fnOk _ hl mixed n d
end Go.Proofs.YtncbkjokabgkbaaDoor.Am
