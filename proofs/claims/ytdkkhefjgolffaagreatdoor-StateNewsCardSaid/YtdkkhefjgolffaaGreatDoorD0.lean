/-
  A row of 54 slots, slot for slot.
-/
import Derived.Test.YtdkkhefjgolffaaGreatDoorA0
namespace Go.Proofs.YtdkkhefjgolffaaGreatDoor.A
theorem row_S {l : List Value} {n : Nat} (h : l.length = n + 1) : ∃ x k, l = x :: k ∧ k.length = n := by
  cases l with
  | nil => cases h
  | cons x k => exact ⟨x, k, rfl, by simpa using h⟩
theorem arr54 (t : Array Value) (h : t.size = 54) : ∃ x0 x1 x2 x3 x4 x5 x6 x7 x8 x9 x10 x11 x12 x13 x14 x15 x16 x17 x18 x19 x20 x21 x22 x23 x24 x25 x26 x27 x28 x29 x30 x31 x32 x33 x34 x35 x36 x37 x38 x39 x40 x41 x42 x43 x44 x45 x46 x47 x48 x49 x50 x51 x52 x53 : Value, t = (List.toArray (x0 :: x1 :: x2 :: x3 :: x4 :: x5 :: x6 :: x7 :: x8 :: x9 :: x10 :: x11 :: x12 :: x13 :: x14 :: x15 :: x16 :: x17 :: x18 :: x19 :: x20 :: x21 :: x22 :: x23 :: x24 :: x25 :: x26 :: x27 :: x28 :: x29 :: x30 :: x31 :: x32 :: x33 :: x34 :: x35 :: x36 :: x37 :: x38 :: x39 :: x40 :: x41 :: x42 :: x43 :: x44 :: x45 :: x46 :: x47 :: x48 :: x49 :: x50 :: x51 :: x52 :: x53 :: [])) := by
  obtain ⟨k⟩ := t
  have h54 : k.length = 54 := by simpa using h
  clear h
  obtain ⟨x0, k, rfl, h53⟩ := row_S h54
  obtain ⟨x1, k, rfl, h52⟩ := row_S h53
  obtain ⟨x2, k, rfl, h51⟩ := row_S h52
  obtain ⟨x3, k, rfl, h50⟩ := row_S h51
  obtain ⟨x4, k, rfl, h49⟩ := row_S h50
  obtain ⟨x5, k, rfl, h48⟩ := row_S h49
  obtain ⟨x6, k, rfl, h47⟩ := row_S h48
  obtain ⟨x7, k, rfl, h46⟩ := row_S h47
  obtain ⟨x8, k, rfl, h45⟩ := row_S h46
  obtain ⟨x9, k, rfl, h44⟩ := row_S h45
  obtain ⟨x10, k, rfl, h43⟩ := row_S h44
  obtain ⟨x11, k, rfl, h42⟩ := row_S h43
  obtain ⟨x12, k, rfl, h41⟩ := row_S h42
  obtain ⟨x13, k, rfl, h40⟩ := row_S h41
  obtain ⟨x14, k, rfl, h39⟩ := row_S h40
  obtain ⟨x15, k, rfl, h38⟩ := row_S h39
  obtain ⟨x16, k, rfl, h37⟩ := row_S h38
  obtain ⟨x17, k, rfl, h36⟩ := row_S h37
  obtain ⟨x18, k, rfl, h35⟩ := row_S h36
  obtain ⟨x19, k, rfl, h34⟩ := row_S h35
  obtain ⟨x20, k, rfl, h33⟩ := row_S h34
  obtain ⟨x21, k, rfl, h32⟩ := row_S h33
  obtain ⟨x22, k, rfl, h31⟩ := row_S h32
  obtain ⟨x23, k, rfl, h30⟩ := row_S h31
  obtain ⟨x24, k, rfl, h29⟩ := row_S h30
  obtain ⟨x25, k, rfl, h28⟩ := row_S h29
  obtain ⟨x26, k, rfl, h27⟩ := row_S h28
  obtain ⟨x27, k, rfl, h26⟩ := row_S h27
  obtain ⟨x28, k, rfl, h25⟩ := row_S h26
  obtain ⟨x29, k, rfl, h24⟩ := row_S h25
  obtain ⟨x30, k, rfl, h23⟩ := row_S h24
  obtain ⟨x31, k, rfl, h22⟩ := row_S h23
  obtain ⟨x32, k, rfl, h21⟩ := row_S h22
  obtain ⟨x33, k, rfl, h20⟩ := row_S h21
  obtain ⟨x34, k, rfl, h19⟩ := row_S h20
  obtain ⟨x35, k, rfl, h18⟩ := row_S h19
  obtain ⟨x36, k, rfl, h17⟩ := row_S h18
  obtain ⟨x37, k, rfl, h16⟩ := row_S h17
  obtain ⟨x38, k, rfl, h15⟩ := row_S h16
  obtain ⟨x39, k, rfl, h14⟩ := row_S h15
  obtain ⟨x40, k, rfl, h13⟩ := row_S h14
  obtain ⟨x41, k, rfl, h12⟩ := row_S h13
  obtain ⟨x42, k, rfl, h11⟩ := row_S h12
  obtain ⟨x43, k, rfl, h10⟩ := row_S h11
  obtain ⟨x44, k, rfl, h9⟩ := row_S h10
  obtain ⟨x45, k, rfl, h8⟩ := row_S h9
  obtain ⟨x46, k, rfl, h7⟩ := row_S h8
  obtain ⟨x47, k, rfl, h6⟩ := row_S h7
  obtain ⟨x48, k, rfl, h5⟩ := row_S h6
  obtain ⟨x49, k, rfl, h4⟩ := row_S h5
  obtain ⟨x50, k, rfl, h3⟩ := row_S h4
  obtain ⟨x51, k, rfl, h2⟩ := row_S h3
  obtain ⟨x52, k, rfl, h1⟩ := row_S h2
  obtain ⟨x53, k, rfl, h0⟩ := row_S h1
  obtain rfl := List.eq_nil_of_length_eq_zero h0
  exact ⟨_, _, _, _, _, _, _, _, _, _, _, _, _, _, _, _, _, _, _, _, _, _, _, _, _, _, _, _, _, _, _, _, _, _, _, _, _, _, _, _, _, _, _, _, _, _, _, _, _, _, _, _, _, _, rfl⟩
end Go.Proofs.YtdkkhefjgolffaaGreatDoor.A
