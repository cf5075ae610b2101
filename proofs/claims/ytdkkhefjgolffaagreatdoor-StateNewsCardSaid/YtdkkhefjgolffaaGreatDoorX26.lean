/-
  The abstract machine: calls in a row, from a world whose memory an abstract one tells in part.
-/
import Derived.Test.YtdkkhefjgolffaaGreatDoorX25
import Derived.Below
set_option linter.unusedVariables false
set_option linter.unusedSimpArgs false
namespace Go.Proofs.YtdkkhefjgolffaaGreatDoor.AM
open Go.RowKit
variable {P : Program}

/-- so far: a world, its abstract memory, and what both began as -/
structure At (cf : Cfg) (M0 : Mu) (w0 : World) (n0 : Nat) (s : St) (M : Mu) (w : World) : Prop where
  hr : HR M s.h w
  li : Li s
  fr : ∀ n, Fresh M s.n n
  gl : GLok M cf
  le : M0.le M
  nn : n0 ≤ s.n
  new : ∀ {b r}, M.m b r → M0.m b r ∨ (n0 ≤ b ∧ (w0.heap.size ≤ r ∨ ∃ b0 ∈ s.t, M0.m b0 r))
  os : w.os = w0.os
  tape : w.tape = w0.tape
  output : w.output = w0.output
  size : w0.heap.size ≤ w.heap.size
  blk : ∀ {r}, r < w0.heap.size → (∀ b ∈ s.t, ¬ M0.m b r) → w.heap[r]? = w0.heap[r]?
theorem At.start {cf : Cfg} {M : Mu} {w : World} {s : St} (H : HR M s.h w) (L : Li s) (F : ∀ n, Fresh M s.n n) (hG : GLok M cf) : At cf M w s.n s M w :=
  ⟨H, L, F, hG, .refl M, Nat.le_refl _, fun h => .inl h, rfl, rfl, rfl, Nat.le_refl _, fun _ _ => rfl⟩
/-- the world goes on, above what there was -/
theorem At.grow {cf : Cfg} {M0 M : Mu} {w0 w w' : World} {n0 : Nat} {s : St} (A : At cf M0 w0 n0 s M w) (B : Below w.heap.size w w') : At cf M0 w0 n0 s M w' :=
  ⟨⟨A.hr.fn, A.hr.fc, fun h => Nat.lt_of_lt_of_le (A.hr.lt h) B.size, A.hr.inj, fun {b o} hb => by
    obtain ⟨r, o', h1, h2, h3⟩ := A.hr.ob hb
    exact ⟨r, o', h1, by rw [B.block r (A.hr.lt h1)]; exact h2, h3⟩⟩, A.li, A.fr, A.gl, A.le, A.nn, A.new, B.os.trans A.os, B.tape.trans A.tape, B.output.trans A.output, Nat.le_trans A.size B.size, fun {r} hr hT => by
    rw [B.block r (Nat.lt_of_lt_of_le hr A.size)]; exact A.blk hr hT⟩
/-- one more call -/
theorem At.call {cf : Cfg} (C : CfgOk P cf) (K : MemsOk P cf) {F : Nat} {f : FuncId} {args : List Value} {v : Value} {s s' : St} (h : runA cf F (.call f args s) = some (.ret v s'))
    {M0 M : Mu} {w0 w : World} {n0 : Nat} (A : At cf M0 w0 n0 s M w) {args' : Array Value} (ha : LR M args args'.toList) :
    Calls P f args' w (fun e w' => ∃ M' v', e = .returned v' ∧ VR M' v v' ∧ M.le M' ∧ At cf M0 w0 n0 s' M' w') := by
  have T : SCall P cf f args s v s' := runA_sound C K F _ _ h
  refine callsIn_wide.1 (CallsIn.mono (T.2.2 M w args' A.hr A.li (A.fr _) A.gl ha) ?_)
  rintro e w' ⟨M', v', rfl, G⟩
  have E := G.ext
  have key : ∀ {b r}, M.m b r → b ∈ s'.t → r < w0.heap.size → ∃ b0 ∈ s'.t, M0.m b0 r := by
    intro b r hb hT hr
    rcases A.new hb with h1 | ⟨_, h1 | ⟨b0, h0, h1⟩⟩
    · exact ⟨b, hT, h1⟩
    · omega
    · exact ⟨b0, G.sx.t _ h0, h1⟩
  refine ⟨M', v', rfl, G.vr, E.le, ⟨G.hr, G.li, fun n => ⟨fun {b r} hb => ?_, fun {b C z} hb => ?_⟩, A.gl.mono E.le, A.le.trans E.le, Nat.le_trans A.nn E.nn, fun {b r} hb => ?_, E.os.trans A.os, E.tape.trans A.tape, E.output.trans A.output, Nat.le_trans A.size E.size, fun {r} hr hT => ?_⟩⟩
  · rcases E.new hb with h1 | ⟨_, h1, _⟩
    · rcases (A.fr (b + 1)).1 h1 with h2 | h2
      · exact .inl (Nat.lt_of_lt_of_le h2 E.nn)
      · omega
    · exact .inl h1
  · rcases E.newc hb with h1 | ⟨_, h1⟩
    · rcases (A.fr (b + 1)).2 h1 with h2 | h2
      · exact .inl (Nat.lt_of_lt_of_le h2 E.nn)
      · omega
    · exact .inl h1
  · rcases E.new hb with h1 | ⟨h1, _, h3⟩
    · rcases A.new h1 with h2 | ⟨h2, h4⟩
      · exact .inl h2
      · exact .inr ⟨h2, h4.imp (fun h => h) fun ⟨b0, h5, h6⟩ => ⟨b0, G.sx.t _ h5, h6⟩⟩
    · refine .inr ⟨Nat.le_trans A.nn h1, ?_⟩
      rcases h3 with h3 | ⟨b0, h3, h4⟩
      · exact .inl (Nat.le_trans A.size h3)
      · by_cases hr : r < w0.heap.size
        · exact .inr (key h4 h3 hr)
        · exact .inl (by omega)
  · rw [E.blk (Nat.lt_of_lt_of_le hr A.size) fun b hb hm => ?_, A.blk hr fun b hb hm => hT b (G.sx.t _ hb) hm]
    obtain ⟨b0, h0, h1⟩ := key hm hb hr
    exact hT b0 h0 h1
/-- what began is as it was, where only new blocks were touched -/
theorem At.below {cf : Cfg} {M0 M : Mu} {w0 w : World} {n0 : Nat} {s : St} (A : At cf M0 w0 n0 s M w) (F0 : ∀ n, Fresh M0 n0 n) (ht : (s.t.all fun b => Nat.ble n0 b) = true) : Below w0.heap.size w0 w :=
  ⟨A.os, A.tape, A.output, A.size, fun k hk => A.blk hk fun b hb hm => by
    have := Nat.le_of_ble_eq_true (List.all_eq_true.1 ht b hb)
    rcases (F0 (b + 1)).1 hm with h | h <;> omega⟩
end Go.Proofs.YtdkkhefjgolffaaGreatDoor.AM
