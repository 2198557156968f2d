/- Symbolic execution, fourteenth text: rows: make, literals of slices, append. -/
import Derived.Test.YtaeoibnbbpgajaaDoorSxM
namespace Go.Proofs.YtaeoibnbbpgajaaDoor.Sx

section
variable {B : Base} {η : Names} {m : Mem} {h : Heap} {nx : Nat} {w w' : World} (hH : Hold B η m h nx w)

theorem Hold.del {h' : Heap} (hH : Hold B η m h nx w) (hd : ∀ k c, lookH h' k = some c → lookH h k = some c) : Hold B η m h' nx w :=
  ⟨hH.imm, fun n c hl => hH.ck n c (hd n c hl), fun n c b hl => hH.own n c b (hd n c hl), fun n c n' c' b hl hl' => hH.apart n c n' c' b (hd n c hl) (hd n' c' hl'),
    hH.old, hH.size, hH.os, hH.tape, hH.output, hH.mle, hH.mnew, hH.par⟩

include hH in
/-- One name more: for a block of its own, or one that no other name has. -/
theorem Hold.put (hok : okH nx h = true) {c : Ck} {p : Place} (hkeep : ∀ k, k < w.heap.size → p.own ≠ some k → w'.heap[k]? = w.heap[k]?) (hs : w.heap.size ≤ w'.heap.size)
    (hos : w'.os = w.os) (htp : w'.tape = w.tape) (hout : w'.output = w.output)
    (hown : ∀ b, p.own = some b → m b = none ∧ b < w'.heap.size ∧ (b ∈ B.mods ∨ B.w0.heap.size ≤ b) ∧ ∀ n d, lookH h n = some d → (η n).own ≠ some b)
    (hc : CkAt (addN η nx p) w' nx c) : Hold B (addN η nx p) m ((nx, c) :: h) (nx + 1) w' := by
  have hag := addN_agree η nx p
  have hnew := addN_new η nx p
  have hlk : ∀ n d, lookH ((nx, c) :: h) n = some d → (n = nx ∧ d = c) ∨ (n < nx ∧ lookH h n = some d) := by
    intro n d hl
    simp only [lookH] at hl
    split at hl
    · rename_i hb
      cases hl
      exact .inl ⟨(beq_eq hb).symm, rfl⟩
    · exact .inr ⟨(okH_look hok hl).1, hl⟩
  refine ⟨fun b o hm => ?_, fun n d hl => ?_, fun n d b hl ho => ?_, fun n d n' d' b hl hl' hne ho ho' => ?_, fun b hb hbm => ?_, Nat.le_trans hH.size hs, hos.trans hH.os, htp.trans hH.tape, hout.trans hH.output, hH.mle, hH.mnew, ⟨Nat.le_succ_of_le hH.par.1, fun n hn => (hag n (Nat.lt_of_lt_of_le hn hH.par.1)).trans (hH.par.2 n hn)⟩⟩
  · have := hH.imm b o hm
    rw [hkeep b (heap_lt this) (fun e => by rw [(hown b e).1] at hm; cases hm)]
    exact this
  · rcases hlk n d hl with ⟨rfl, rfl⟩ | ⟨hn, hl2⟩
    · exact ⟨Nat.lt_succ_self _, hc⟩
    · obtain ⟨_, hck⟩ := hH.ck n d hl2
      refine ⟨Nat.lt_succ_of_lt hn, hck.kept (hag n hn) (fun e cs hcs => ?_) fun b ho => hkeep b (hH.own n d b hl2 ho).2.1 fun e => (hown b e).2.2.2 n d hl2 ho⟩
      subst hcs
      exact dens_ok hag cs (okH_look hok hl2).2
  · rcases hlk n d hl with ⟨rfl, rfl⟩ | ⟨hn, hl2⟩
    · rw [hnew] at ho
      obtain ⟨h1, h2, h3, _⟩ := hown b ho
      exact ⟨h1, h2, h3⟩
    · rw [hag n hn] at ho
      obtain ⟨h1, h2, h3⟩ := hH.own n d b hl2 ho
      exact ⟨h1, Nat.lt_of_lt_of_le h2 hs, h3⟩
  · rcases hlk n d hl with ⟨rfl, rfl⟩ | ⟨hn, hl2⟩ <;> rcases hlk n' d' hl' with ⟨rfl, rfl⟩ | ⟨hn', hl2'⟩
    · exact hne rfl
    · rw [hnew] at ho
      rw [hag n' hn'] at ho'
      exact (hown b ho).2.2.2 n' d' hl2' ho'
    · rw [hnew] at ho'
      rw [hag n hn] at ho
      exact (hown b ho').2.2.2 n d hl2 ho
    · rw [hag n hn] at ho
      rw [hag n' hn'] at ho'
      exact hH.apart n d n' d' b hl2 hl2' hne ho ho'
  · have hlt : b < w.heap.size := Nat.lt_of_lt_of_le hb hH.size
    rw [hkeep b hlt (fun e => by rcases (hown b e).2.2.1 with h1 | h1; exact hbm h1; omega)]
    exact hH.old b hb hbm

include hH in
theorem Hold.fresh {b : Nat} (hb : w.heap.size ≤ b) (hlt : b < w'.heap.size) : m b = none ∧ b < w'.heap.size ∧ (b ∈ B.mods ∨ B.w0.heap.size ≤ b) ∧ ∀ n d, lookH h n = some d → (η n).own ≠ some b := by
  refine ⟨?_, hlt, .inr (Nat.le_trans hH.size hb), fun n d hl ho => ?_⟩
  · cases hm : m b with
    | none => rfl
    | some o => have := heap_lt (hH.imm _ _ hm); omega
  · have := (hH.own n d b hl ho).2.1; omega
end

/-! ### append -/
theorem frozen_zero {w : World} {g o : Nat} {cur : Array Value} {e : TypeId} (hg : w.heap[g]? = some (.cells cur e (0, 0))) : w.frozen? ⟨g, o, none⟩ = false := by
  simp [World.frozen?, hg]

section
variable {P : Program} {w : World} {t u e : TypeId}

/-- append into a row that has the room. -/
theorem append_room (hu : P.underlying t = some (.slice e)) (huu : (∃ e', P.underlying u = some (.slice e')) ∨ P.underlying u = some .string) {i : TypeInfo} (hi : P.info? e = some i)
    {g sLen sCap n : Nat} {cur : Array Value} (hg : w.heap[g]? = some (.cells cur e (0, 0))) {x : Value} {news : List Value}
    (hx : (Builtin.lenOf x).run P w = .ok n w) (hf : (Builtin.firstCells i.size n x).run P w = .ok news.toArray w) (h1 : ∀ v ∈ news, v.oneCell' = true)
    (hroom : sLen + n ≤ sCap) (hfit : sLen * i.size + news.length ≤ cur.size) (ty : TypeId) :
    (Builtin.append_ #[t, u] ty #[.slice (some ⟨g, 0, none⟩) sLen sCap, x]).run P w =
      .ok (.slice (some ⟨g, 0, none⟩) (sLen + n) sCap) (w.setRow g (cur.toList.take (sLen * i.size) ++ news ++ cur.toList.drop (sLen * i.size + news.length)).toArray) := by
  have hst := run_storeCells_at P g (sLen * i.size) e news 0 cur w hg (by simpa using hfit) h1
  simp only [Nat.add_zero] at hst
  rcases huu with ⟨e', huu⟩ | huu
  · simp [Builtin.append_, run_underlying hu, run_underlying huu, sizeOf, typeInfo, hi, hx, hroom, hf, Addr.add_lit, hst]
  · simp [Builtin.append_, run_underlying hu, run_underlying huu, sizeOf, typeInfo, hi, hx, hroom, hf, Addr.add_lit, hst]
/-- append of nothing to nothing. -/
theorem append_none (hu : P.underlying t = some (.slice e)) (huu : (∃ e', P.underlying u = some (.slice e')) ∨ P.underlying u = some .string) {i : TypeInfo} (hi : P.info? e = some i)
    {A : Option Addr} {x : Value} (hx : (Builtin.lenOf x).run P w = .ok 0 w) (hf : (Builtin.firstCells i.size 0 x).run P w = .ok #[] w) (ty : TypeId) :
    (Builtin.append_ #[t, u] ty #[.slice A 0 0, x]).run P w = .ok (.slice A 0 0) w := by
  rcases huu with ⟨e', huu⟩ | huu <;> cases A <;> simp [Builtin.append_, run_underlying hu, run_underlying huu, sizeOf, typeInfo, hi, hx, hf, storeCells]
/-- append that makes a new array. -/
theorem append_grow (hu : P.underlying t = some (.slice e)) (huu : (∃ e', P.underlying u = some (.slice e')) ∨ P.underlying u = some .string) {i : TypeInfo} (hi : P.info? e = some i) {z : Value} (hz : i.zero = some z)
    {A : Option Addr} {sLen sCap n : Nat} {olds news : List Value} {x : Value} (ho : (Builtin.firstCells i.size sLen (.slice A sLen sCap)).run P w.drew = .ok olds.toArray w.drew)
    (hx : (Builtin.lenOf x).run P w = .ok n w) (hf : (Builtin.firstCells i.size n x).run P w.drew = .ok news.toArray w.drew)
    (hg : sCap < sLen + n) (h63 : ((sLen + n : Nat) : Int) ≤ 9223372036854775807) (hfit : Builtin.nextslicecap (sLen + n) sCap * i.bytes ≤ 281474976710656) (ty : TypeId) :
    (Builtin.append_ #[t, u] ty #[.slice A sLen sCap, x]).run P w =
      .ok (.slice (some ⟨w.heap.size, 0, none⟩) (sLen + n) (grownCap w (sLen + n) sCap e))
        (w.drew.alloc (.cells (olds.toArray ++ news.toArray ++ Builtin.zeroCells z.cells (grownCap w (sLen + n) sCap e - (sLen + n))) e)) := by
  have hn : ¬ (sLen + n ≤ sCap) := by omega
  have h63' : ¬ (9223372036854775807 < ((sLen : Int) + (n : Int))) := by omega
  have h48' : ¬ (281474976710656 < Builtin.nextslicecap (sLen + n) sCap * i.bytes) := by omega
  rcases huu with ⟨e', huu⟩ | huu
  · simp [Builtin.append_, run_underlying hu, run_underlying huu, sizeOf, typeInfo, zeroValue, hi, hz, hx, hn, h63', h48', Question.forced, hf, ho, Go.newRow, grownCap]
    congr 2
    apply Array.ext'
    simp [List.append_assoc]
  · simp [Builtin.append_, run_underlying hu, run_underlying huu, sizeOf, typeInfo, zeroValue, hi, hz, hx, hn, h63', h48', Question.forced, hf, ho, Go.newRow, grownCap]
    congr 2
    apply Array.ext'
    simp [List.append_assoc]
end
end Go.Proofs.YtaeoibnbbpgajaaDoor.Sx
