/- Symbolic execution, seventh text: the quiet operations are evaluated rightly, part two: parts of blocks, loads, addresses. -/
import Derived.Test.YtaeoibnbbpgajaaDoorSxF
namespace Go.Proofs.YtaeoibnbbpgajaaDoor.Sx

/-! ### lists of parts -/
theorem ints_length (n : Nat) (k : IntKind) (f : Nat → Int) : (ints n k f).length = n := by simp [ints]
theorem dens_append (η : Names) : ∀ a b : List SV, dens η (a ++ b) = dens η a ++ dens η b
  | [], _ => rfl
  | x :: r, b => by simp only [List.cons_append, dens, dens_append η r b, List.append_assoc]
theorem dens_one (η : Names) (x : SV) (h : isGi x = false) : dens η [x] = [den η x] := by cases x <;> first | rfl | cases h
theorem drop_app (x y : List Value) (n k : Nat) (h : x.length = k) (hk : k ≤ n) : (x ++ y).drop n = y.drop (n - k) := by
  rw [List.drop_append, List.drop_of_length_le (by omega), List.nil_append, h]
theorem take_app (x y : List Value) (n k : Nat) (h : x.length = k) (hk : k ≤ n) : (x ++ y).take n = x ++ y.take (n - k) := by
  rw [List.take_append, List.take_of_length_le (by omega), h]
theorem dens_len (η : Names) (x : SV) : (dens η [x]).length = wid x := by
  cases x <;> simp [dens, pc, wid, ints_length]
theorem dens_cons (η : Names) (x : SV) (r : List SV) : dens η (x :: r) = dens η [x] ++ dens η r := by
  simp only [dens, List.append_nil]
theorem widL_len (η : Names) : ∀ l : List SV, (dens η l).length = widL l
  | [] => rfl
  | x :: r => by rw [dens_cons, List.length_append, dens_len, widL_len η r]; rfl
theorem ble_le {a b : Nat} (h : Nat.ble a b = true) : a ≤ b := Nat.le_of_ble_eq_true h

theorem partAt_sound : ∀ {l : List SV} {o : Nat} {K : SV → Prop}, partAt l o K →
    ∃ x, K x ∧ ∀ η, o + wid x ≤ (dens η l).length ∧ dens η [x] = ((dens η l).drop o).take (wid x)
  | [], _, _, h => h.elim
  | x :: r, o, K, h => by
    simp only [partAt] at h
    split at h
    · rename_i ho
      obtain rfl := beq_eq ho
      rw [force_eq] at h
      refine ⟨x, h, fun η => ?_⟩
      rw [dens_cons η x r, List.length_append, dens_len]
      exact ⟨by omega, by rw [List.drop_zero, List.take_left' (dens_len η x)]⟩
    · split at h
      · rename_i hb
        have hle := ble_le hb
        obtain ⟨y, hy, hh⟩ := partAt_sound h
        refine ⟨y, hy, fun η => ?_⟩
        have h' := hh η
        rw [dens_cons η x r, List.length_append, dens_len]
        refine ⟨by omega, ?_⟩
        rw [h'.2, drop_app _ _ _ _ (dens_len η x) hle]
      · exact h.elim
theorem takeN_sound : ∀ {l : List SV} {n : Nat} {K : List SV → Prop}, takeN l n K →
    ∃ a, K a ∧ ∀ η, n ≤ (dens η l).length ∧ dens η a = (dens η l).take n
  | l, 0, K, h => ⟨[], by cases l <;> simpa [takeN] using h, fun η => ⟨Nat.zero_le _, by simp [dens]⟩⟩
  | [], _ + 1, _, h => h.elim
  | x :: r, n + 1, K, h => by
    simp only [takeN] at h
    split at h
    · rename_i hb
      have hle := ble_le hb
      rw [force_eq] at h
      obtain ⟨a, ha, hh⟩ := takeN_sound h
      refine ⟨x :: a, ha, fun η => ?_⟩
      have h' := hh η
      rw [dens_cons η x r, List.length_append, dens_len, dens_cons η x a, h'.2, take_app _ _ _ _ (dens_len η x) hle]
      exact ⟨by omega, rfl⟩
    · exact h.elim
theorem dropN_sound : ∀ {l : List SV} {n : Nat} {K : List SV → Prop}, dropN l n K →
    ∃ b, K b ∧ ∀ η, n ≤ (dens η l).length ∧ dens η b = (dens η l).drop n
  | l, 0, K, h => ⟨l, by cases l <;> simpa [dropN] using h, fun η => ⟨Nat.zero_le _, by simp⟩⟩
  | [], _ + 1, _, h => h.elim
  | x :: r, n + 1, K, h => by
    simp only [dropN] at h
    split at h
    · rename_i hb
      have hle := ble_le hb
      obtain ⟨b, hb, hh⟩ := dropN_sound h
      refine ⟨b, hb, fun η => ?_⟩
      have h' := hh η
      rw [dens_cons η x r, List.length_append, dens_len, h'.2, drop_app _ _ _ _ (dens_len η x) hle]
      exact ⟨by omega, rfl⟩
    · exact h.elim
theorem appK_eq : ∀ (a b : List SV) (K : List SV → Prop), appK a b K = K (a ++ b)
  | [], _, _ => rfl
  | x :: r, b, K => by simp only [appK, appK_eq r b, List.cons_append]
theorem putAt_sound {cs : List SV} {o n : Nat} {new : List SV} {K : List SV → Prop} (h : putAt cs o n new K) :
    ∃ cs', K cs' ∧ ∀ η, (dens η new).length = n ∧ o + n ≤ (dens η cs).length ∧ dens η cs' = (dens η cs).take o ++ (dens η new ++ (dens η cs).drop (o + n)) := by
  unfold putAt at h
  split at h
  · rename_i hw
    obtain ⟨a, h, ha⟩ := takeN_sound h
    obtain ⟨b, h, hb⟩ := dropN_sound h
    rw [appK_eq, appK_eq] at h
    exact ⟨_, h, fun η => ⟨by rw [widL_len]; exact beq_eq hw, (hb η).1, by rw [dens_append, dens_append, (ha η).2, (hb η).2]⟩⟩
  · exact h.elim
theorem plain_one (η : Names) (x : SV) (h : plainB x = true) : (den η x).oneCell' = true := by cases x <;> first | rfl | exact h | cases h
theorem plain_gi {x : SV} (h : plainB x = true) : isGi x = false := by cases x <;> first | rfl | cases h
theorem plain_wid {x : SV} (h : plainB x = true) : wid x = 1 := by cases x <;> first | rfl | cases h
theorem getAt_sound {cs : List SV} {g : Bool} {o n : Nat} {K : SV → Prop} (h : getAt cs g o n K) :
    ∃ x, K x ∧ ∀ η, match g with
      | true => o + n ≤ (dens η cs).length ∧ den η x = .agg (((dens η cs).drop o).take n).toArray
      | false => (dens η cs)[o]? = some (den η x) := by
  cases g with
  | true =>
    simp only [getAt] at h
    obtain ⟨b, h, hb⟩ := dropN_sound h
    obtain ⟨a, h, ha⟩ := takeN_sound h
    refine ⟨_, h, fun η => ⟨?_, ?_⟩⟩
    · have h1 := (hb η).1; have h2 := (ha η).1; rw [(hb η).2, List.length_drop] at h2; omega
    · simp only [den]; rw [(ha η).2, (hb η).2]
  | false =>
    simp only [getAt] at h
    obtain ⟨x, h, hx⟩ := partAt_sound h
    split at h
    · rename_i hp
      refine ⟨x, h, fun η => ?_⟩
      have h1 := hx η
      have hgi := plain_gi hp
      have hw := plain_wid hp
      rw [hw] at h1
      rw [dens_one η x hgi] at h1
      have h2 := congrArg (·[0]?) h1.2
      simpa using h2.symm
    · exact h.elim
theorem cells_one (v : Value) (h : v.oneCell' = true) : v.cells.toList = [v] := by cases v <;> first | rfl | cases h
theorem parts_sound {x : SV} {K : List SV → Prop} (h : parts x K) : ∃ cs, K cs ∧ ∀ η, (isG x = true ∨ plainB x = true) → (den η x).cells.toList = dens η cs := by
  unfold parts at h
  split at h
  · exact ⟨_, h, fun η _ => by simp [den, Value.cells]⟩
  · rename_i hg
    refine ⟨_, h, fun η hx => ?_⟩
    have hp : plainB x = true := hx.resolve_left (fun e => by cases x with
      | g cs => exact (hg cs rfl).elim
      | _ => cases e)
    rw [cells_one _ (plain_one η x hp), dens_one η x (plain_gi hp)]
end Go.Proofs.YtaeoibnbbpgajaaDoor.Sx
