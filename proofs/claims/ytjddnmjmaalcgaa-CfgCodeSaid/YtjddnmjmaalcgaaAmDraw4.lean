/- The abstract machine: operations whose order is drawn: the check, and the law.
   No condition: plain lemmas. -/
import Derived.Test.YtjddnmjmaalcgaaAmDraw3
namespace Am
set_option linter.unusedSimpArgs false
set_option linter.unusedVariables false
open Go

section
variable {P : Program} {N : Nat} {ops : Array Oper} {ord : List Nat} {A : Nat → AIns} {rd : Nat → List Nat} {B : Nat → Nat → Bool} {kd : Nat → Nat} {m0 : Mu} {H0 : Heap} {w0 : World}

def left (l : List Bool) : Nat := (l.filter fun b => !b).length
theorem left_set : ∀ (l : List Bool) (i : Nat), l[i]? = some false → left (l.set i true) + 1 = left l
  | [], i, h => by simp at h
  | b :: l, 0, h => by
    have hb : b = false := by simpa using h
    subst hb; simp [left]
  | b :: l, i + 1, h => by
    have := left_set l i (by simpa using h)
    simp only [left, List.set_cons_succ, List.filter_cons] at this ⊢
    split
    · simp only [List.length_cons]; omega
    · exact this

theorem first_false (f : Nat → Bool) : ∀ l : List Nat, (∃ j ∈ l, f j = false) → ∃ pre x rest, l = pre ++ x :: rest ∧ f x = false ∧ ∀ j ∈ pre, f j = true
  | [], h => by obtain ⟨j, h, _⟩ := h; cases h
  | y :: l, h => by
    cases hy : f y with
    | false => exact ⟨[], y, l, rfl, hy, by simp⟩
    | true =>
      obtain ⟨j, hj, hf⟩ := h
      rcases List.mem_cons.1 hj with e | e
      · subst e; rw [hy] at hf; cases hf
      · obtain ⟨pre, x, rest, h1, h2, h3⟩ := first_false f l ⟨j, e, hf⟩
        exact ⟨y :: pre, x, rest, by rw [h1]; rfl, h2, fun k hk => by rcases List.mem_cons.1 hk with e | e; (subst e; exact hy); exact h3 k e⟩

theorem all_listed (D : DOk P N ops ord A rd B kd) {listed : Array Bool} (hs : listed.size = ops.size) (hr : Region.ready .any ops listed = []) : ∀ j, j < ops.size → listed.getD j false = true := by
  intro j hj
  cases hL : listed.getD j false with
  | true => rfl
  | false =>
    exfalso
    obtain ⟨pre, x, rest, h1, h2, h3⟩ := first_false (fun j => listed.getD j false) ord ⟨j, (D.mem j).2 hj, hL⟩
    have hx : x < ops.size := (D.mem x).1 (by rw [h1]; simp)
    obtain ⟨o, ho⟩ : ∃ o, ops[x]? = some o := ⟨_, Array.getElem?_eq_getElem hx⟩
    have : x ∈ Region.ready .any ops listed := by
      unfold Region.ready
      rw [List.mem_filter, List.mem_range]
      refine ⟨hx, ?_⟩
      have e1 : listed.getD x true = false := by
        obtain ⟨b, hb⟩ : ∃ b, listed[x]? = some b := ⟨_, Array.getElem?_eq_getElem (by omega)⟩
        simp only [Array.getD_eq_getD_getElem?, hb] at h2 ⊢
        simpa using h2
      rw [e1, ho]
      simp only [Bool.not_false, Bool.true_and, Option.map_some, Option.getD_some, Array.all_eq_true_iff_forall_mem]
      intro e he
      cases hb : Region.binds .any e with
      | false => rfl
      | true => simpa using h3 e.on (D.topo pre x rest h1 e.on (D.dir x o ho e he hb))
    rw [hr] at this; cases this

theorem any_draw (D : DOk P N ops ord A rd B kd) {Q : Exit → Fr → Heap → Prop} : ∀ (fuel : Nat) (listed : Array Bool) (a : Act) (w : World), DState P N ops ord A B kd (Q .normal) m0 H0 w0 listed a w → left listed.toList ≤ fuel →
    wpAny P .any ops (CPost Q m0 H0 w0 N) fuel listed a w := by
  have fin : ∀ (listed : Array Bool) (a : Act) (w : World), DState P N ops ord A B kd (Q .normal) m0 H0 w0 listed a w → Region.ready .any ops listed = [] → CPost Q m0 H0 w0 N .normal a w := by
    rintro listed a w ⟨blk, pre, rest, m, fr, H, I, hset⟩ hr
    have hall := all_listed D I.sz hr
    have hrest : rest = [] := by
      rcases hset with h | ⟨x, r, h1, _, h3⟩
      · exact h
      · have hx : x < ops.size := (D.mem x).1 (by rw [I.spl, h1]; simp)
        rw [hall x hx] at h3; cases h3
    have hrun := I.run
    rw [hrest] at hrun
    refine ⟨fr, H, m, by simpa [wOps] using hrun, I.rel, fun t => I.frame t fun j hj _ => ⟨fun h => ?_, fun h => ?_⟩, I.kept, I.tsz, I.dfr⟩
    · rw [hall j hj] at h; exact absurd h.2.2 (by simp)
    · rw [hrest] at h; exact absurd h.1 (by simp)
  intro fuel
  induction fuel with
  | zero =>
    intro listed a w h hl
    have hr : Region.ready .any ops listed = [] := by
      cases hr : Region.ready .any ops listed with
      | nil => rfl
      | cons i l =>
        exfalso
        obtain ⟨blk, pre, rest, m, fr, H, I, _⟩ := h
        have hi : i ∈ Region.ready .any ops listed := by rw [hr]; simp
        obtain ⟨h1, h2, _⟩ := ready_spec hi I.sz
        have hget : listed.toList[i]? = some false := by
          obtain ⟨b, hb⟩ : ∃ b, listed[i]? = some b := ⟨_, Array.getElem?_eq_getElem (by rw [I.sz]; exact h1)⟩
          simp only [Array.getD_eq_getD_getElem?, hb] at h2
          simp only [Array.getElem?_toList, hb]
          simpa using h2
        have := left_set _ _ hget
        omega
    exact ⟨hr, fin listed a w h hr⟩
  | succ fuel ih =>
    intro listed a w h hl
    refine ⟨fun hr => fin listed a w h hr, fun i hi => ?_⟩
    have hsz : listed.size = ops.size := by obtain ⟨blk, pre, rest, m, fr, H, I, _⟩ := h; exact I.sz
    obtain ⟨h1, h2, _⟩ := ready_spec hi hsz
    have hget : listed.toList[i]? = some false := by
      obtain ⟨b, hb⟩ : ∃ b, listed[i]? = some b := ⟨_, Array.getElem?_eq_getElem (by rw [hsz]; exact h1)⟩
      simp only [Array.getD_eq_getD_getElem?, hb] at h2
      simp only [Array.getElem?_toList, hb]
      simpa using h2
    have hle := left_set _ _ hget
    refine wpOp_mono (fun a w hd => ih _ a w hd ?_) (step_draw D h _ hi)
    rw [Array.toList_setIfInBounds]
    omega

/-- The law. -/
theorem draw_of (D : DOk P N ops ord A rd B kd) (hP : P.follows .mixedOrders = true) {Q : Exit → Fr → Heap → Prop} {fr : Fr} {H : Heap} {m : Mu} {a : Act} {w : World} (id : Nat)
    (h : wOps P (Q .normal) (ord.map A) fr H) (hA : ARel m H w) (hF : FRel m fr a) (hK : Kept m0 H0 w0 m H w) (hN : a.tmps.size = N) (hD : a.defers = []) : (Code.region id ops true).wp P (CPost Q m0 H0 w0 N) a w := by
  refine wp_region_any hP (any_draw D _ _ a _ ?_ ?_)
  · have hno : ∀ j, (Array.replicate ops.size false).getD j false = false := by
      intro j; simp only [Array.getD_eq_getD_getElem?, Array.getElem?_replicate]; split <;> rfl
    have hI : DInv P N ops ord A B kd (Q .normal) m0 H0 w0 (Array.replicate ops.size false) a { w with drawn := w.drawn + 1 } (fun _ => 0) [] ord m fr H :=
      ⟨rfl, by simp, h, fun j hj => (by cases hj), fun j _ hL => (by rw [hno] at hL; cases hL), hA.drew _, hK.trans (Kept.drew _ _ _ _), hN, hD, fun t _ => hF t, fun j hj => (by cases hj), fun j hL => (by rw [hno] at hL; cases hL), fun i _ j _ hL => (by rw [hno] at hL; cases hL)⟩
    obtain ⟨pre', rest', m', fr', H', h1, h2⟩ := advance D ord [] m fr H hI
    exact ⟨_, pre', rest', m', fr', H', h1, h2⟩
  · simp only [left, Array.toList_replicate]
    exact Nat.le_trans (List.length_filter_le _ _) (by simp)
end

/-! ### The check -/
def rdO (o : Oper) : List Nat := o.op.operands.toList.filterMap fun | .tmp t => some t | _ => none
def rdG : Option (Nat × Bool) → List Nat
  | some (d, _) => [d]
  | none => []
def bfOf (o : Oper) (bf : Nat → Nat) : Nat := o.after.toList.foldl (fun s e => if Region.binds .any e then s ||| 2 ^ e.on ||| bf e.on else s) 0
def bfTab : List Oper → List Nat → List Nat
  | [], acc => acc
  | o :: l, acc => bfTab l (acc ++ [bfOf o (acc.getD · 0)])
def isQ : AOp → Bool
  | .q _ => true
  | _ => false
def isMkA : AOp → Bool
  | .e e => isMk e
  | _ => false
def isNew : AOp → Bool
  | .e (.new _ _) => true
  | _ => false
def sub (a b : Nat) : Bool := a &&& b == a
def maskOf (n : Nat) (f : Nat → Bool) : Nat := (List.range n).foldl (fun s i => if f i then s ||| 2 ^ i else s) 0

structure Tab where
  ins : List AIns
  rd : List (List Nat)
  bf : List Nat
def insAt (l : List AIns) (i : Nat) : AIns := l.getD i ⟨none, none, .q (.val (.tmp 0)), []⟩
def freshB (n : Nat) (ins : List AIns) (rd : List (List Nat)) (bf : List Nat) (i : Nat) : Bool :=
  match (insAt ins i).dst with
  | some d => (List.range n).all fun k => (k == i || (insAt ins k).dst != some d) && (!(rd.getD k []).contains d || (bf.getD k 0).testBit i)
  | none => false
def kdTab (n : Nat) (ins : List AIns) (rd : List (List Nat)) (bf : List Nat) : List Nat :=
  let lt := (List.range n).map fun i => isQ (insAt ins i).op && freshB n ins rd bf i
  let lm := maskOf n fun i => lt.getD i false
  (List.range n).map fun i => if lt.getD i false then 0 else if isMkA (insAt ins i).op && (insAt ins i).guard.isNone && freshB n ins rd bf i && sub (bf.getD i 0) lm then 1 else 2
def nextOp (n : Nat) (bf kd : List Nat) (em : Nat) : Option Nat :=
  let rdy i := !em.testBit i && sub (bf.getD i 0) em
  match (List.range n).find? (fun i => kd.getD i 2 == 0 && rdy i) with
  | some i => some i
  | none =>
    match (List.range n).find? (fun i => kd.getD i 2 == 2 && !em.testBit i) with
    | some h => if rdy h then some h else (List.range n).find? (fun i => kd.getD i 2 == 1 && rdy i && (bf.getD h 0).testBit i)
    | none => (List.range n).find? (fun i => kd.getD i 2 == 1 && rdy i)
def orderOf (n : Nat) (bf kd : List Nat) : Nat → Nat → List Nat → List Nat
  | 0, _, acc => acc.reverse
  | f + 1, em, acc => match nextOp n bf kd em with | some i => orderOf n bf kd f (em ||| 2 ^ i) (i :: acc) | none => acc.reverse
def floats (ins : List AIns) (bf kd : List Nat) (x : Nat) (pre : List Nat) : List QOp :=
  pre.filterMap fun j => if kd.getD j 2 == 0 && !(bf.getD x 0).testBit j then (match (insAt ins j).op with | .q q => if looks q then some q else none | _ => none) else none
def finalIns (ins : List AIns) (bf kd : List Nat) (ord : List Nat) (x : Nat) : AIns :=
  let i := insAt ins x
  if kd.getD x 2 == 2 then ⟨i.dst, i.guard, i.op, floats ins bf kd x (ord.takeWhile (· != x))⟩ else i
/-- along the order: 'pm': what stands ahead, as bits -/
def chk (n : Nat) (ins : List AIns) (rd : List (List Nat)) (bf kd : List Nat) (nl hv : Nat) : Nat → List Nat → Bool
  | _, [] => true
  | pm, x :: r =>
    !pm.testBit x && sub (bf.getD x 0) pm && (kd.getD x 2 == 1 || sub (pm &&& nl) (bf.getD x 0)) && (kd.getD x 2 != 1 || isNew (insAt ins x).op || pm &&& hv == 0) && chk n ins rd bf kd nl hv (pm ||| 2 ^ x) r
def hwB (n : Nat) (ins : List AIns) (rd : List (List Nat)) (bf kd : List Nat) (x : Nat) : Bool :=
  kd.getD x 2 != 2 || match (insAt ins x).dst with
    | some d => (List.range n).all fun j => (bf.getD x 0).testBit j || j == x || (bf.getD j 0).testBit x || kd.getD j 2 == 2 || !(rd.getD j []).contains d
    | none => true
def okDraw (n : Nat) (ops : List Oper) (ins : List AIns) (rd : List (List Nat)) (bf kd ord : List Nat) : Bool :=
  (List.range n).all (ord.contains ·) && ord.all (· < n) &&
  (List.range n).all (fun i => match ops[i]? with | some o => bf.getD i 0 == bfOf o (bf.getD · 0) && rd.getD i [] == rdO o ++ rdA (insAt ins i).op ++ rdG (insAt ins i).guard | none => false) &&
  (List.range n).all (fun i => kd.getD i 2 == 2 || freshB n ins rd bf i) &&
  (List.range n).all (fun i => kd.getD i 2 != 0 || isQ (insAt ins i).op) &&
  (List.range n).all (fun i => kd.getD i 2 != 1 || (isMkA (insAt ins i).op && (insAt ins i).guard.isNone && sub (bf.getD i 0) (maskOf n fun j => kd.getD j 2 == 0))) &&
  kd.all (· ≤ 2) && kd.length == n &&
  (List.range n).all (hwB n ins rd bf kd) &&
  chk n ins rd bf kd (maskOf n fun j => kd.getD j 2 != 0) (maskOf n fun j => kd.getD j 2 == 2) 0 ord
def cDraw (P : Program) (N : Nat) (ops : Array Oper) : Option (List AIns) :=
  match cList P N ops ops.toList with
  | some ins =>
    let n := ops.size
    let bf := bfTab ops.toList []
    let rd := (List.range n).map fun i => match ops[i]? with | some o => rdO o ++ rdA (insAt ins i).op ++ rdG (insAt ins i).guard | none => []
    let kd := kdTab n ins rd bf
    let ord := orderOf n bf kd n 0 []
    if okDraw n ops.toList ins rd bf kd ord then some (ord.map (finalIns ins bf kd ord)) else none
  | none => none
end Am
