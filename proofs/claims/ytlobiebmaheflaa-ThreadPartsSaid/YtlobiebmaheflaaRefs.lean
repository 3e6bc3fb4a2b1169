/- The reference's set in memory: a row of messages in ascending order. Contract of place. -/
import Derived.Test.YtlobiebmaheflaaAdd
namespace Go.Proofs.Ytlobiebmaheflaa
open Go.RowKit
set_option linter.unusedVariables false

/-- The slice v reads as the identifiers l; its block lies in G. -/
def IdRow (w : World) (G : Nat → Prop) (v : Value) (l : List ByteArray) : Prop :=
  ∃ A cap, v = .slice A l.length cap ∧ (∀ s, s ∈ l → Fits s) ∧ l.length ≤ 1000000 ∧ (l = [] ∨ ∃ ad, A = some ad ∧ G ad.block ∧ ad.block < w.heap.size ∧ ∀ j s, l[j]? = some s → w.cell? (ad.add j) = some (.string s))
/-- The cells of a message whose identifiers are the slice v. -/
def msgCells (p : Msg × Value) : List Value := [.int .i64 p.1.id, p.2, .string p.1.base]
def I64 (x : Int) : Prop := -9223372036854775808 ≤ x ∧ x ≤ 9223372036854775807
/-- The slice v owns the messages ms, each with the slice of its identifiers. -/
def MsgRow (w : World) (G : Nat → Prop) (v : Value) (ms : List (Msg × Value)) : Prop :=
  w.ownsRow 0 58 3 v ms.length (ms.flatMap msgCells) ∧ (∀ b, v.ownBlock = some b → G b) ∧ ∀ p, p ∈ ms → IdRow w G p.2 p.1.ids ∧ I64 p.1.id ∧ Fits p.1.base
/-- The reference's set at block xh. -/
structure RefW (w : World) (G : Nat → Prop) (xh : Nat) (L : List Msg) : Prop where
  row : ∃ v ms, w.heap[xh]? = some (.cells #[v] 55 (0, 0)) ∧ MsgRow w G v ms ∧ ms.map (·.1) = L
  hdr : G xh
  fresh : ∀ b, w.heap.size ≤ b → G b
  asc : Asc L

section
variable {w w' : World} {G G' : Nat → Prop} {xh : Nat} {L : List Msg} {v : Value} {ms : List (Msg × Value)}
theorem IdRow.keep {l : List ByteArray} (h : IdRow w G v l) (hk : ∀ b, G b → b < w.heap.size → w'.heap[b]? = w.heap[b]? ∧ G' b) (hs : w.heap.size ≤ w'.heap.size) : IdRow w' G' v l := by
  obtain ⟨A, cap, h1, h2, h3, h4⟩ := h
  refine ⟨A, cap, h1, h2, h3, h4.imp id ?_⟩
  rintro ⟨ad, a1, a2, a3, a4⟩
  obtain ⟨k1, k2⟩ := hk _ a2 a3
  refine ⟨ad, a1, k2, by omega, fun j s hj => ?_⟩
  rw [← a4 j s hj]
  have : (ad.add j).block = ad.block := add_block _ _
  simp only [World.cell?, this, k1]
theorem MsgRow.keep (h : MsgRow w G v ms) (hk : ∀ b, G b → b < w.heap.size → w'.heap[b]? = w.heap[b]? ∧ G' b) (hs : w.heap.size ≤ w'.heap.size) : MsgRow w' G' v ms :=
  ⟨ownsRow_block h.1 fun b e => (hk b (h.2.1 b e) (h.1.lt b e).2).1, fun b e => (hk b (h.2.1 b e) (h.1.lt b e).2).2, fun p hp => ⟨(h.2.2 p hp).1.keep hk hs, (h.2.2 p hp).2⟩⟩
theorem RefW.keep (h : RefW w G xh L) (hk : ∀ b, G b → b < w.heap.size → w'.heap[b]? = w.heap[b]? ∧ G' b) (hs : w.heap.size ≤ w'.heap.size) (hf : ∀ b, w'.heap.size ≤ b → G' b) : RefW w' G' xh L := by
  obtain ⟨v, ms, h1, h2, h3⟩ := h.row
  have := hk xh h.hdr (heap_lt h1)
  exact ⟨⟨v, ms, this.1.trans h1, h2.keep hk hs, h3⟩, this.2, hf, h.asc⟩
theorem RefW.below (h : RefW w G xh L) (hb : Below w.heap.size w w') : RefW w' G xh L := h.keep (fun b hg hl => ⟨hb.block b hl, hg⟩) hb.size fun b hl => h.fresh b (by have := hb.size; omega)
theorem msg_len : ∀ ms : List (Msg × Value), (ms.flatMap msgCells).length = ms.length * 3 := fun l => by induction l with | nil => rfl | cons a r ih => simp [msgCells] at ih ⊢; omega
theorem msg_get : ∀ (l : List (Msg × Value)) j (hj : j < l.length), (l.flatMap msgCells)[j * 3]? = some (.int .i64 l[j].1.id) ∧ (l.flatMap msgCells)[j * 3 + 1]? = some l[j].2 ∧ (l.flatMap msgCells)[j * 3 + 2]? = some (.string l[j].1.base) := fun l => by
  induction l with
  | nil => intro j hj; simp at hj
  | cons a r ih =>
    intro j hj
    cases j with
    | zero => simp [msgCells]
    | succ j =>
      have := ih j (by simpa using hj)
      have e1 : (j + 1) * 3 = j * 3 + 1 + 1 + 1 := by omega
      simp only [List.flatMap_cons, msgCells, List.cons_append, List.nil_append, e1, List.getElem?_cons_succ, List.getElem_cons_succ]
      exact this
/-- The cells of a row of messages. -/
theorem MsgRow.at_ (h : MsgRow w G v ms) : ∃ A cap, v = .slice A ms.length cap ∧ ms.length ≤ cap ∧ cap ≤ maxLen ∧ (A = none → cap = 0) ∧ ∀ j (hj : j < ms.length), ∃ g, A = some ⟨g, 0, none⟩ ∧ G g ∧ g < w.heap.size ∧ w.cell? ⟨g, j * 3, none⟩ = some (.int .i64 ms[j].1.id) ∧ w.cell? ⟨g, j * 3 + 1, none⟩ = some ms[j].2 ∧ w.cell? ⟨g, j * 3 + 2, none⟩ = some (.string ms[j].1.base) := by
  obtain ⟨h1, h2, h3⟩ := h
  rcases h1.2 with ⟨rfl, h0⟩ | ⟨g, cap, cur, rfl, hb, hg, q1, q2, q3⟩
  · exact ⟨none, 0, by rw [h0], by omega, by simp, fun _ => rfl, fun j hj => by omega⟩
  · refine ⟨_, cap, rfl, q1, q2, (by intro e; cases e), fun j hj => ⟨g, rfl, h2 g rfl, heap_lt hg, ?_, ?_, ?_⟩⟩
    · have := h1.cells (g := g) rfl (j * 3) _ (msg_get ms j hj).1
      by_cases e : j = 0
      · subst e; simpa [Addr.add] using this
      · have e2 : j * 3 ≠ 0 := by omega
        simpa [Addr.add, e2, e] using this
    · have := h1.cells (g := g) rfl (j * 3 + 1) _ (msg_get ms j hj).2.1
      simpa [Addr.add] using this
    · have := h1.cells (g := g) rfl (j * 3 + 2) _ (msg_get ms j hj).2.2
      simpa [Addr.add] using this
/-- The cells of the reference's set. -/
theorem RefW.at_ (h : RefW w G xh L) : ∃ A cap, w.cell? ⟨xh, 0, none⟩ = some (.slice A L.length cap) ∧ w.frozen? ⟨xh, 0, none⟩ = false ∧ L.length ≤ cap ∧ cap ≤ maxLen ∧ (A = none → cap = 0) ∧
    ∀ j (hj : j < L.length), ∃ g v, A = some ⟨g, 0, none⟩ ∧ G g ∧ g < w.heap.size ∧ w.cell? ⟨g, j * 3, none⟩ = some (.int .i64 L[j].id) ∧ w.cell? ⟨g, j * 3 + 1, none⟩ = some v ∧ w.cell? ⟨g, j * 3 + 2, none⟩ = some (.string L[j].base) ∧ IdRow w G v L[j].ids ∧ I64 L[j].id ∧ Fits L[j].base := by
  obtain ⟨v, ms, h1, h2, rfl⟩ := h.row
  obtain ⟨A, cap, rfl, q1, q2, q4, q3⟩ := h2.at_
  refine ⟨A, cap, by simp [World.cell?, h1], by simp [World.frozen?, h1], by simpa using q1, q2, q4, fun j hj => ?_⟩
  have hj' : j < ms.length := by simpa using hj
  obtain ⟨g, r1, r2, r3, r4, r5, r6⟩ := q3 j hj'
  have := h2.2.2 _ (List.getElem_mem hj')
  exact ⟨g, ms[j].2, r1, r2, r3, by simpa using r4, r5, by simpa using r6, by simpa using this⟩
end

def PlacePost (L : List Msg) (id : Int) (w : World) (e : Ending) (w' : World) : Prop :=
  ∃ r : Int, e = .returned (.int .i64 r) ∧ ((r = -1 ∧ ∀ m, m ∈ L → m.id ≠ id) ∨ ∃ k, ∃ h : k < L.length, r = k ∧ L[k].id = id) ∧ Below w.heap.size w w'
set_option maxRecDepth 100000 in
theorem place_any (id : Int) (w : World) {G : Nat → Prop} {xh : Nat} {L : List Msg} (h : RefW w G xh L) (hL : L.length ≤ 1000000) :
    Calls Try.prog 27 #[.pointer (some ⟨xh, 0, none⟩), .int .i64 id] w (PlacePost L id w) := by
  obtain ⟨A, cap, hx, -, -, -, -, hA⟩ := h.at_
  obtain ⟨n, hn⟩ : ∃ n, L.length = n := ⟨_, rfl⟩
  rw [hn] at hx hL
  have HN := Lib.hid hn
  have HA := Lib.hid hA
  have HX := Lib.hid (heap_lt h.row.choose_spec.choose_spec.1)
  have HC := Lib.hid hx
  clear hn hA hx
  go_enter Try.func27, Try.ntmps27
  go_wp2
  go_loopw [5] (fun i wr => ∃ j : Nat, j ≤ n ∧ i = .int .i64 j ∧ Hid (∀ t, t < j → (h : t < L.length) → L[t].id ≠ id) ∧ Hid (Below w.heap.size w wr)) (fun i _ => n - (intOf i).toNat)
  case atStart => exact ⟨0, Nat.zero_le _, rfl, fun t ht => absurd ht (by omega), Below.refl _ _⟩
  case round =>
    obtain ⟨j, hj, rfl, hno, hB⟩ := hrel
    have c0 := (hB.out.cell (p := ⟨xh, 0, none⟩) HX.out).trans HC.out
    by_cases hlt : j < n
    · have hjl : j < L.length := by rw [HN.out]; exact hlt
      obtain ⟨g, v, rfl, -, hg, d0, -⟩ := HA.out j hjl
      obtain ⟨y, hy⟩ : ∃ y, L[j].id = y := ⟨_, rfl⟩
      rw [hy] at d0
      have d1 := (hB.out.cell (p := ⟨g, j * 3, none⟩) hg).trans d0
      have hj2 : (j : Int) < n := by omega
      have HY := Lib.hid hy
      clear d0 hg hy
      by_cases he : y = id
      · have HE := Lib.hid he
        clear he
        have he2 : (y == id) = true := by simp [HE.out]
        go_wp2
        go_ret
        exact ⟨j, rfl, .inr ⟨j, hjl, rfl, HY.out.trans HE.out⟩, hB.out⟩
      · have he2 : (y == id) = false := by simp [he]
        go_wp2
        go_roundw
        case rel =>
          refine ⟨j + 1, by omega, by go_num, fun t ht hl => ?_, hB.out⟩
          by_cases e : t = j
          · subst e; rw [HY.out]; exact he
          · exact hno.out t (by omega) hl
        case measure => simp [intOf] <;> omega
    · obtain rfl : j = n := by omega
      go_wp2
      go_ret
      refine ⟨-1, rfl, .inl ⟨rfl, fun m hm e => ?_⟩, hB.out⟩
      obtain ⟨t, ht, rfl⟩ := List.getElem_of_mem hm
      exact hno.out t (by rw [← HN.out]; exact ht) ht e
end Go.Proofs.Ytlobiebmaheflaa
