/- A set of threads in memory: header, maps, nodes, rows; what a store, an append, a map's store do to it. No condition. -/
import Derived.Test.YtlobiebmaheflaaMem
import Derived.LaidEqlPtr
import Derived.Lib.Builder
namespace Go.Proofs.Ytlobiebmaheflaa
open Go.RowKit
set_option linter.unusedVariables false

def nodeCells (num : Int) (tv : Value) (up : Nat) (gv : Value) : Array Value := #[.int .i64 num, tv, ptr up, gv]

/-- The set whose header is block hd. 'ok': the nodes whose group's row is known. -/
structure Mem (w : World) (tag : Nat → Tag) (hd N T : Nat) (nm : Int → Option Nat) (live ok : Nat → Prop) (num : Nat → Int) (tm : Nat → List Tie) (up : Nat → Nat) (grp : Nat → List Nat) (tl : Tie → List Nat) (c : Nat) : Prop where
  hdr : w.heap[hd]? = some (.cells #[.map (some N), .map (some T)] 52 (0, 0))
  tagH : tag hd = tHd
  nodes : NodesMap w N nm c
  tagN : tag N = tNodes
  ties : ∃ tv, TiesMap w T tv c ∧ ∀ k, TieFits k → PtrRow w tag (tTie k) (tv k) (tl k)
  tagT : tag T = tTies
  node : ∀ g, live g → ∃ tv gv, w.heap[g]? = some (.cells (nodeCells (num g) tv (up g) gv) 64 (0, 0)) ∧ tag g = tNode ∧ TieRow w tag (tOwn g) tv (tm g) ∧ (ok g → PtrRow w tag (tGrp g) gv (grp g))
  fresh : Fresh w tag

theorem node_info : ∃ j, Try.prog.info? 64 = some j ∧ j.size ≠ 0 := by
  have h : (Try.prog.info? 64).map (·.size) = some 4 := by kernel_rfl
  cases hi : Try.prog.info? 64 with
  | none => rw [hi] at h; cases h
  | some j =>
    rw [hi] at h
    refine ⟨j, rfl, ?_⟩
    have : j.size = 4 := by simpa using h
    omega
theorem run_neq_ptr_other {P : Program} (w : World) {tp te : TypeId} {j : TypeInfo} {a b : Addr} {ca cb : Array Value} {ta tb : TypeId} (hp : P.underlying tp = some (.pointer te)) (hte : P.info? te = some j) (hsz : j.size ≠ 0)
    (hne : a ≠ b) (ha : w.heap[a.block]? = some (.cells ca ta (0, 0))) (hb : w.heap[b.block]? = some (.cells cb tb (0, 0))) :
    (binOp .neq tp (.pointer (some a)) (.pointer (some b))).run P w = .ok (.bool true) w := by
  have h : ∀ d : Nat, (Op.equalIn (d + 1) tp (.pointer (some a)) (.pointer (some b))).run P w = .ok false w := fun d => by
    simp [Op.equalIn, run_underlying hp, sizeOf, typeInfo, hte, hsz, run_sameAddr_other w hne ha hb]
  simp only [binOp]
  simp [Op.equal, Op.maxDepth, h 9999]
theorem ptr_neq {w : World} {x y : Nat} (h : x ≠ y) {cx cy : Array Value} {tx ty : TypeId} (hx : w.heap[x]? = some (.cells cx tx (0, 0))) (hy : w.heap[y]? = some (.cells cy ty (0, 0))) :
    (binOp .neq 59 (.pointer (some ⟨x, 0, none⟩)) (.pointer (some ⟨y, 0, none⟩))).run Try.prog w = .ok (.bool true) w ∧ (binOp .eql 59 (.pointer (some ⟨x, 0, none⟩)) (.pointer (some ⟨y, 0, none⟩))).run Try.prog w = .ok (.bool false) w := by
  obtain ⟨j, h1, h2⟩ := node_info
  have hne : (⟨x, 0, none⟩ : Addr) ≠ ⟨y, 0, none⟩ := fun e => h (Addr.mk.inj e).1
  exact ⟨run_neq_ptr_other w Try.underlying59 h1 h2 hne hx hy, run_eql_ptr_other w Try.underlying59 h1 h2 hne hx hy⟩
theorem ptr_same (w : World) (x : Nat) :
    (binOp .neq 59 (.pointer (some ⟨x, 0, none⟩)) (.pointer (some ⟨x, 0, none⟩))).run Try.prog w = .ok (.bool false) w ∧ (binOp .eql 59 (.pointer (some ⟨x, 0, none⟩)) (.pointer (some ⟨x, 0, none⟩))).run Try.prog w = .ok (.bool true) w := by
  obtain ⟨j, h1, _⟩ := node_info
  exact ⟨Lib.run_neq_ptr_same w _ Try.underlying59 h1, run_eql_ptr_same w _ Try.underlying59 h1⟩
theorem heap_lt {w : World} {b : Nat} {o : Obj} (h : w.heap[b]? = some o) : b < w.heap.size := (Array.getElem?_eq_some_iff.1 h).1

namespace Mem
variable {w w' : World} {tag tag' : Nat → Tag} {hd N T : Nat} {nm : Int → Option Nat} {live ok ok' : Nat → Prop} {num : Nat → Int} {tm : Nat → List Tie} {up : Nat → Nat} {grp : Nat → List Nat} {tl : Tie → List Nat} {c : Nat}
/-- All of the set's blocks but rows of groups that are given up stand as they stood. -/
theorem pass (h : Mem w tag hd N T nm live ok num tm up grp tl c) (hok : ∀ g, live g → ok' g → ok g) (hf : Fresh w' tag')
    (hb : ∀ b, Of tag b → b < w.heap.size → (∃ x, tag b = tGrp x ∧ ¬ ok' x) ∨ (w'.heap[b]? = w.heap[b]? ∧ tag' b = tag b)) : Mem w' tag' hd N T nm live ok' num tm up grp tl c := by
  have one : ∀ b t, tag b = t → t ≠ tOut → (∀ x, t = tGrp x → ok' x) → b < w.heap.size → w'.heap[b]? = w.heap[b]? ∧ tag' b = t := by
    intro b t ht hne hx hlt
    subst ht
    rcases hb b hne hlt with ⟨x, h1, h2⟩ | h1
    · exact absurd (hx x h1) h2
    · exact h1
  have hH := one hd tHd h.tagH (by simp [tHd, tOut]) (fun x e => by simp [tHd, tGrp] at e) (heap_lt h.hdr)
  have hN := one N tNodes h.tagN (by simp [tNodes, tOut]) (fun x e => by simp [tNodes, tGrp] at e) h.nodes.lt
  obtain ⟨tv, ht1, ht2⟩ := h.ties
  have hT := one T tTies h.tagT (by simp [tTies, tOut]) (fun x e => by simp [tTies, tGrp] at e) ht1.lt
  refine ⟨hH.1.trans h.hdr, hH.2, h.nodes.keep hN.1, hN.2, ⟨tv, ht1.keep hT.1, fun k hk => (ht2 k hk).keep fun b e hlt => one b _ e (by simp [tTie, tOut]) (fun x e => by simp [tTie, tGrp] at e) hlt⟩, hT.2, fun g hg => ?_, hf⟩
  obtain ⟨tv, gv, h1, h2, h3, h4⟩ := h.node g hg
  have hg' := one g tNode h2 (by simp [tNode, tOut]) (fun x e => by simp [tNode, tGrp] at e) (heap_lt h1)
  exact ⟨tv, gv, hg'.1.trans h1, hg'.2, h3.keep fun b e hlt => one b _ e (by simp [tOwn, tOut]) (fun x e => by simp [tOwn, tGrp] at e) hlt,
    fun ho => (h4 (hok g hg ho)).keep fun b e hlt => one b _ e (by simp [tGrp, tOut]) (fun x e => by simp [tGrp] at e; subst e; exact ho) hlt⟩
/-- The set stays while what it does not own turns. -/
theorem off (h : Mem w tag hd N T nm live ok num tm up grp tl c) {F : Nat → Prop} (hO : Off F w w') (hF : ∀ b, F b → tag b = tOut) : Mem w' tag hd N T nm live ok num tm up grp tl c :=
  h.pass (fun _ _ h => h) (fun b hb => h.fresh b (Nat.le_trans hO.size hb)) fun b hb hlt => .inr ⟨hO.block b hlt fun hf => hb (hF b hf), rfl⟩
theorem less (h : Mem w tag hd N T nm live ok num tm up grp tl c) (hok : ∀ g, live g → ok' g → ok g) : Mem w tag hd N T nm live ok' num tm up grp tl c :=
  h.pass hok h.fresh fun b _ _ => .inr ⟨rfl, rfl⟩
theorem mono (h : Mem w tag hd N T nm live ok num tm up grp tl c) {c' : Nat} (hc : c ≤ c') : Mem w tag hd N T nm live ok num tm up grp tl c' :=
  { h with nodes := h.nodes.mono hc, ties := h.ties.imp fun _ ⟨h1, h2⟩ => ⟨h1.mono hc, h2⟩ }
theorem sub (h : Mem w tag hd N T nm live ok num tm up grp tl c) {live' : Nat → Prop} (hl : ∀ g, live' g → live g) : Mem w tag hd N T nm live' ok num tm up grp tl c :=
  { h with node := fun g hg => h.node g (hl g hg) }
/-- Functions that agree on the live nodes serve alike. -/
theorem congr (h : Mem w tag hd N T nm live ok num tm up grp tl c) {num' : Nat → Int} {tm' : Nat → List Tie} {up' : Nat → Nat} {grp' : Nat → List Nat} {tl' : Tie → List Nat}
    (hn : ∀ g, live g → num' g = num g ∧ tm' g = tm g ∧ up' g = up g ∧ (ok g → grp' g = grp g)) (ht : ∀ k, TieFits k → tl' k = tl k) : Mem w tag hd N T nm live ok num' tm' up' grp' tl' c :=
  { h with
    ties := h.ties.imp fun _ ⟨h1, h2⟩ => ⟨h1, fun k hk => by rw [ht k hk]; exact h2 k hk⟩
    node := fun g hg => by
      obtain ⟨e1, e2, e3, e4⟩ := hn g hg
      obtain ⟨tv, gv, h1, h2, h3, h4⟩ := h.node g hg
      exact ⟨tv, gv, by rw [e1, e3]; exact h1, h2, by rw [e2]; exact h3, fun ho => by rw [e4 ho]; exact h4 ho⟩ }

/-- The cells of a node. -/
theorem cells (h : Mem w tag hd N T nm live ok num tm up grp tl c) {g : Nat} (hg : live g) : ∃ tv gv, w.cell? ⟨g, 0, none⟩ = some (.int .i64 (num g)) ∧ w.cell? ⟨g, 1, none⟩ = some tv ∧ w.cell? ⟨g, 2, none⟩ = some (ptr (up g)) ∧ w.cell? ⟨g, 3, none⟩ = some gv ∧
    (∀ j, w.frozen? ⟨g, j, none⟩ = false) ∧ TieRow w tag (tOwn g) tv (tm g) ∧ (ok g → PtrRow w tag (tGrp g) gv (grp g)) := by
  obtain ⟨tv, gv, h1, h2, h3, h4⟩ := h.node g hg
  exact ⟨tv, gv, by simp [World.cell?, h1, nodeCells], by simp [World.cell?, h1, nodeCells], by simp [World.cell?, h1, nodeCells], by simp [World.cell?, h1, nodeCells], fun j => by simp [World.frozen?, h1], h3, h4⟩
theorem node_tag (h : Mem w tag hd N T nm live ok num tm up grp tl c) {g : Nat} (hg : live g) : tag g = tNode ∧ g < w.heap.size := by
  obtain ⟨tv, gv, h1, h2, _⟩ := h.node g hg
  exact ⟨h2, heap_lt h1⟩

theorem neq (h : Mem w tag hd N T nm live ok num tm up grp tl c) {x y : Nat} (hx : live x) (hy : live y) (hxy : x ≠ y) :
    (binOp .neq 59 (.pointer (some ⟨x, 0, none⟩)) (.pointer (some ⟨y, 0, none⟩))).run Try.prog w = .ok (.bool true) w ∧ (binOp .eql 59 (.pointer (some ⟨x, 0, none⟩)) (.pointer (some ⟨y, 0, none⟩))).run Try.prog w = .ok (.bool false) w := by
  obtain ⟨_, _, h1, _⟩ := h.node x hx
  obtain ⟨_, _, h2, _⟩ := h.node y hy
  exact ptr_neq hxy h1 h2

/-- A node's block is turned, and nothing else of the set. -/
theorem turn (h : Mem w tag hd N T nm live ok num tm up grp tl c) {x : Nat} (hx : live x) (hs : w.heap.size ≤ w'.heap.size) (hO : ∀ b, Of tag b → b < w.heap.size → b ≠ x → w'.heap[b]? = w.heap[b]?) {up1 : Nat} {g1 : List Nat} {o1 : Prop}
    (hnew : ∀ tv gv, w.heap[x]? = some (.cells (nodeCells (num x) tv (up x) gv) 64 (0, 0)) → (ok x → PtrRow w tag (tGrp x) gv (grp x)) → ∃ gv', w'.heap[x]? = some (.cells (nodeCells (num x) tv up1 gv') 64 (0, 0)) ∧ (o1 → PtrRow w' tag (tGrp x) gv' g1)) :
    Mem w' tag hd N T nm live (fun g => if g = x then o1 else ok g) num tm (upd up x up1) (upd grp x g1) tl c := by
  have hxt := (h.node_tag hx).1
  have one : ∀ b t, tag b = t → t ≠ tOut → t ≠ tNode → b < w.heap.size → w'.heap[b]? = w.heap[b]? ∧ tag b = t := by
    intro b t ht hne hnn hlt
    subst ht
    exact ⟨hO b hne hlt fun e => hnn (e ▸ hxt), rfl⟩
  have hH := one hd tHd h.tagH (by simp [tHd, tOut]) (by simp [tHd, tNode]) (heap_lt h.hdr)
  have hN := one N tNodes h.tagN (by simp [tNodes, tOut]) (by simp [tNodes, tNode]) h.nodes.lt
  obtain ⟨tv, ht1, ht2⟩ := h.ties
  have hT := one T tTies h.tagT (by simp [tTies, tOut]) (by simp [tTies, tNode]) ht1.lt
  refine ⟨hH.1.trans h.hdr, hH.2, h.nodes.keep hN.1, hN.2, ⟨tv, ht1.keep hT.1, fun k hk => (ht2 k hk).keep fun b e hlt => one b _ e (by simp [tTie, tOut]) (by simp [tTie, tNode]) hlt⟩, hT.2, fun g hg => ?_, fun b hb => h.fresh b (Nat.le_trans hs hb)⟩
  obtain ⟨tv, gv, h1, h2, h3, h4⟩ := h.node g hg
  have hties : TieRow w' tag (tOwn g) tv (tm g) := h3.keep fun b e hlt => one b _ e (by simp [tOwn, tOut]) (by simp [tOwn, tNode]) hlt
  by_cases e : g = x
  · subst e
    obtain ⟨gv', q1, q2⟩ := hnew tv gv h1 h4
    exact ⟨tv, gv', by rw [upd_same]; exact q1, h2, hties, fun ho => by rw [upd_same]; exact q2 (by simpa using ho)⟩
  · refine ⟨tv, gv, by rw [upd_other _ _ e]; exact (hO g (by simp [Of, h2, tNode, tOut]) (heap_lt h1) e).trans h1, h2, hties, fun ho => ?_⟩
    rw [upd_other _ _ e]
    exact (h4 (by simpa [e] using ho)).keep fun b e hlt => one b _ e (by simp [tGrp, tOut]) (by simp [tGrp, tNode]) hlt
/-- x.up = y. -/
theorem setUp (h : Mem w tag hd N T nm live ok num tm up grp tl c) {x : Nat} (hx : live x) (y : Nat) : Mem (w.setCell ⟨x, 2, none⟩ (ptr y)) tag hd N T nm live ok num tm (upd up x y) grp tl c := by
  have hxt := (h.node_tag hx).1
  have h1 := h.turn hx (w' := w.setCell ⟨x, 2, none⟩ (ptr y)) (by simp [World.setCell]) (fun b _ _ hb => heap_setCell_other _ _ _ _ hb) (up1 := y) (g1 := grp x) (o1 := ok x) (fun tv gv hb ho => ⟨gv, by rw [heap_setCell_same _ _ _ _ _ _ hb]; rfl, fun h => (ho h).keep fun b e hlt =>
    ⟨heap_setCell_other _ _ _ _ (fun e2 => by simp only at e2; rw [e2, hxt] at e; simp [tGrp, tNode] at e), e⟩⟩)
  exact (h1.less (ok' := ok) fun g _ ho => by by_cases e : g = x <;> simp [e] <;> (try subst e) <;> exact ho).congr (fun g _ => ⟨rfl, rfl, rfl, fun _ => by by_cases e : g = x; subst e; rw [upd_same]; rw [upd_other _ _ e]⟩) fun _ _ => rfl
/-- x.group = v, a row of x's own. -/
theorem setGrp (h : Mem w tag hd N T nm live ok num tm up grp tl c) {x : Nat} (hx : live x) {v : Value} {l : List Nat} (hv : PtrRow w tag (tGrp x) v l) : Mem (w.setCell ⟨x, 3, none⟩ v) tag hd N T nm live (fun g => ok g ∨ g = x) num tm up (upd grp x l) tl c := by
  have hxt := (h.node_tag hx).1
  have h1 := h.turn hx (w' := w.setCell ⟨x, 3, none⟩ v) (by simp [World.setCell]) (fun b _ _ hb => heap_setCell_other _ _ _ _ hb) (up1 := up x) (g1 := l) (o1 := True) (fun tv gv hb ho => ⟨v, by rw [heap_setCell_same _ _ _ _ _ _ hb]; rfl, fun _ => hv.keep fun b e hlt =>
    ⟨heap_setCell_other _ _ _ _ (fun e2 => by simp only at e2; rw [e2, hxt] at e; simp [tGrp, tNode] at e), e⟩⟩)
  exact (h1.less (ok' := fun g => ok g ∨ g = x) fun g _ ho => by by_cases e : g = x <;> simp [e] at ho ⊢ <;> exact ho).congr (fun g _ => ⟨rfl, rfl, by by_cases e : g = x; subst e; rw [upd_same]; rw [upd_other _ _ e], fun _ => rfl⟩) fun _ _ => rfl
/-- x.group = anything. -/
theorem loseGrp (h : Mem w tag hd N T nm live ok num tm up grp tl c) {x : Nat} (hx : live x) (v : Value) : Mem (w.setCell ⟨x, 3, none⟩ v) tag hd N T nm live (fun g => ok g ∧ g ≠ x) num tm up grp tl c := by
  have h1 := h.turn hx (w' := w.setCell ⟨x, 3, none⟩ v) (by simp [World.setCell]) (fun b _ _ hb => heap_setCell_other _ _ _ _ hb) (up1 := up x) (g1 := grp x) (o1 := False) (fun tv gv hb ho => ⟨v, by rw [heap_setCell_same _ _ _ _ _ _ hb]; rfl, fun h => h.elim⟩)
  exact (h1.less (ok' := fun g => ok g ∧ g ≠ x) fun g _ ho => by by_cases e : g = x <;> simp [e] at ho ⊢ <;> exact ho).congr (fun g _ => ⟨rfl, rfl, by by_cases e : g = x; subst e; rw [upd_same]; rw [upd_other _ _ e], fun _ => by by_cases e : g = x; subst e; rw [upd_same]; rw [upd_other _ _ e]⟩) fun _ _ => rfl
/-- A block that nobody needs becomes x's. -/
theorem retag (h : Mem w tag hd N T nm live ok num tm up grp tl c) {x b : Nat} (hx : ¬ ok x) (hb : tag b = tGrp x ∨ tag b = tOut) (hlt : b < w.heap.size) : Mem w (upd tag b (tGrp x)) hd N T nm live ok num tm up grp tl c := by
  refine h.pass (fun _ _ h => h) (fun b' hb' => ?_) fun b' h1 h2 => ?_
  · rw [upd_other _ _ (by omega)]; exact h.fresh b' hb'
  · by_cases e : b' = b
    · subst e
      rcases hb with hb | hb
      · exact .inl ⟨x, hb, hx⟩
      · exact absurd hb h1
    · exact .inr ⟨rfl, upd_other _ _ e⟩
/-- The map of the nodes is written. -/
theorem turnNodes (h : Mem w tag hd N T nm live ok num tm up grp tl c) {nm' : Int → Option Nat} {c' : Nat} (hg : w.grownBy w' (some N)) (hN : NodesMap w' N nm' c') (hc : c ≤ c') : Mem w' tag hd N T nm' live ok num tm up grp tl c' := by
  have one : ∀ b t, tag b = t → t ≠ tOut → t ≠ tNodes → b < w.heap.size → w'.heap[b]? = w.heap[b]? ∧ tag b = t := fun b t ht _ hn hlt =>
    ⟨hg.block b hlt (fun e => hn (by injection e with e; rw [← ht, e]; exact h.tagN)), ht⟩
  obtain ⟨tv, ht1, ht2⟩ := h.ties
  refine ⟨(one hd _ h.tagH (by simp [tHd, tOut]) (by simp [tHd, tNodes]) (heap_lt h.hdr)).1.trans h.hdr, h.tagH, hN, h.tagN, ⟨tv, (ht1.keep (one T _ h.tagT (by simp [tTies, tOut]) (by simp [tTies, tNodes]) ht1.lt).1).mono hc, fun k hk => (ht2 k hk).keep fun b e hlt => one b _ e (by simp [tTie, tOut]) (by simp [tTie, tNodes]) hlt⟩, h.tagT, fun g hgl => ?_, fun b hb => h.fresh b (Nat.le_trans hg.size hb)⟩
  obtain ⟨tv, gv, h1, h2, h3, h4⟩ := h.node g hgl
  exact ⟨tv, gv, (one g _ h2 (by simp [tNode, tOut]) (by simp [tNode, tNodes]) (heap_lt h1)).1.trans h1, h2, h3.keep fun b e hlt => one b _ e (by simp [tOwn, tOut]) (by simp [tOwn, tNodes]) hlt,
    fun ho => (h4 ho).keep fun b e hlt => one b _ e (by simp [tGrp, tOut]) (by simp [tGrp, tNodes]) hlt⟩
/-- The map of the ties is written at k; its row there becomes v. -/
theorem turnTies (h : Mem w tag hd N T nm live ok num tm up grp tl c) {tv : Tie → Value} (ht1 : TiesMap w T tv c) (ht2 : ∀ k, TieFits k → PtrRow w tag (tTie k) (tv k) (tl k)) {k : Tie} {v : Value} {l : List Nat} {c' : Nat} (hO : Off (fun b => b = T ∨ tag b = tTie k) w w')
    (hT : TiesMap w' T (upd tv k v) c') (hc : c ≤ c') (hv : w'.ownsRow 0 59 1 v l.length (l.map ptr)) (hat : ∀ g, v.ownBlock = some g → tag g = tTie k ∨ w.heap.size ≤ g) :
    Mem w' (fun b => if v.ownBlock = some b then tTie k else tag b) hd N T nm live ok num tm up grp (upd tl k l) c' := by
  have old : ∀ b, b < w.heap.size → tag b ≠ tTie k → (if v.ownBlock = some b then tTie k else tag b) = tag b := fun b hb hn => by
    rw [if_neg]
    intro e
    rcases hat b e with h1 | h1
    · exact hn h1
    · omega
  have one : ∀ b t, tag b = t → t ≠ tTies → t ≠ tTie k → b < w.heap.size → w'.heap[b]? = w.heap[b]? ∧ (if v.ownBlock = some b then tTie k else tag b) = t := fun b t ht hn hk hlt =>
    ⟨hO.block b hlt (fun e => by rcases e with e | e; exact hn (by rw [← ht, e]; exact h.tagT); exact hk (ht.symm.trans e)), by rw [old b hlt (by rw [ht]; exact hk), ht]⟩
  have hH := one hd _ h.tagH (by simp [tHd, tTies]) (by simp [tHd, tTie]) (heap_lt h.hdr)
  have hN := one N _ h.tagN (by simp [tNodes, tTies]) (by simp [tNodes, tTie]) h.nodes.lt
  refine ⟨hH.1.trans h.hdr, hH.2, (h.nodes.keep hN.1).mono hc, hN.2, ⟨_, hT, fun k' hk' => ?_⟩, by rw [old T ht1.lt (by rw [h.tagT]; simp [tTies, tTie])]; exact h.tagT, fun g hgl => ?_, fun b hb => ?_⟩
  · by_cases e : k' = k
    · subst e
      rw [upd_same, upd_same]
      exact ⟨hv, fun b hb => if_pos hb⟩
    · rw [upd_other _ _ e, upd_other _ _ e]
      exact (ht2 k' hk').keep fun b eb hlt => one b _ eb (by simp [tTie, tTies]) (by simp [tTie]; exact e) hlt
  · obtain ⟨tv, gv, h1, h2, h3, h4⟩ := h.node g hgl
    have hg := one g _ h2 (by simp [tNode, tTies]) (by simp [tNode, tTie]) (heap_lt h1)
    exact ⟨tv, gv, hg.1.trans h1, hg.2, h3.keep fun b e hlt => one b _ e (by simp [tOwn, tTies]) (by simp [tOwn, tTie]) hlt, fun ho => (h4 ho).keep fun b e hlt => one b _ e (by simp [tGrp, tTies]) (by simp [tGrp, tTie]) hlt⟩
  · rw [if_neg (fun e => by have := (hv.lt b e).2; omega)]
    exact h.fresh b (Nat.le_trans hO.size hb)
/-- A node comes, its block and rows made beforehand. -/
theorem addNode (h : Mem w tag hd N T nm live ok num tm up grp tl c) {x : Nat} {i : Int} {tv gv : Value} {u : Nat} {TL : List Tie} {l : List Nat} (hx : tag x = tOut) (hb : w.heap[x]? = some (.cells (nodeCells i tv u gv) 64 (0, 0)))
    (ht : w.ownsRow 0 72 2 tv TL.length (TL.flatMap tieCells)) (hg : w.ownsRow 0 59 1 gv l.length (l.map ptr)) (ht' : ∀ b, tv.ownBlock = some b → tag b = tOut ∧ b ≠ x) (hg' : ∀ b, gv.ownBlock = some b → tag b = tOut ∧ b ≠ x ∧ tv.ownBlock ≠ some b) :
    Mem w (fun b => if b = x then tNode else if tv.ownBlock = some b then tOwn x else if gv.ownBlock = some b then tGrp x else tag b) hd N T nm (fun g => live g ∨ g = x) (fun g => ok g ∨ g = x) (upd num x i) (upd tm x TL) (upd up x u) (upd grp x l) tl c := by
  have old : ∀ b, tag b ≠ tOut → (if b = x then tNode else if tv.ownBlock = some b then tOwn x else if gv.ownBlock = some b then tGrp x else tag b) = tag b := fun b hn => by
    rw [if_neg (fun e : b = x => hn (by rw [e]; exact hx)), if_neg (fun e => hn (ht' b e).1), if_neg (fun e => hn (hg' b e).1)]
  have hm := h.pass (w' := w) (tag' := fun b => if b = x then tNode else if tv.ownBlock = some b then tOwn x else if gv.ownBlock = some b then tGrp x else tag b) (ok' := ok) (fun _ _ h => h) (fun b hlt => by
    show (if b = x then tNode else if tv.ownBlock = some b then tOwn x else if gv.ownBlock = some b then tGrp x else tag b) = tOut
    rw [if_neg (fun e => by have := heap_lt hb; omega), if_neg (fun e => by have := (ht.lt b e).2; omega), if_neg (fun e => by have := (hg.lt b e).2; omega)]; exact h.fresh b hlt) fun b hb _ => .inr ⟨rfl, old b hb⟩
  have hnl : ¬ live x := fun hl => by have := (h.node_tag hl).1; rw [hx] at this; simp [tOut, tNode] at this
  refine { hm with node := fun g hgl => ?_ }
  rcases hgl with hgl | rfl
  · have e : g ≠ x := fun e => hnl (e ▸ hgl)
    obtain ⟨tv', gv', h1, h2, h3, h4⟩ := hm.node g hgl
    refine ⟨tv', gv', by rw [upd_other _ _ e, upd_other _ _ e]; exact h1, h2, by rw [upd_other _ _ e]; exact h3, fun ho => ?_⟩
    rw [upd_other _ _ e]
    exact h4 (ho.resolve_right e)
  · refine ⟨tv, gv, by rw [upd_same, upd_same]; exact hb, if_pos rfl, ⟨by rw [upd_same]; exact ht, fun b e => ?_⟩, fun _ => ⟨by rw [upd_same]; exact hg, fun b e => ?_⟩⟩
    · show (if b = g then tNode else if tv.ownBlock = some b then tOwn g else if gv.ownBlock = some b then tGrp g else tag b) = tOwn g
      rw [if_neg (ht' b e).2, if_pos e]
    · show (if b = g then tNode else if tv.ownBlock = some b then tOwn g else if gv.ownBlock = some b then tGrp g else tag b) = tGrp g
      rw [if_neg (hg' b e).2.1, if_neg (hg' b e).2.2, if_pos e]
end Mem
end Go.Proofs.Ytlobiebmaheflaa
