/- The pure machine: rows of a function's own that grow and are cut,by their places behind the heap that it found.
   No condition: plain lemmas. -/
import Derived.Test.YtmdnkninbkcmkaaZGPmLoop
import Derived.Test.YtmdnkninbkcmkaaZGPmVal10
namespace Pm
set_option linter.unusedSimpArgs false
set_option linter.unusedVariables false
open Go Am

def rowO (o : Option Ob) (ver : Nat) : Option Row := match o with | some (.row r) => if r.ver = ver then some r else none | _ => none
section
variable {h : Heap} {rs : List Ob} {cs vs : List Value} {e off n j ver len : Nat} {v : Value} {α : Type} {f : α → Value} {l : List α}
theorem qIe : (h ++ rs).row? (h.length + j) ver = rowO rs[j]? ver := by
  simp only [Heap.row?,rowO,List.getElem?_append_right (Nat.le_add_right h.length j),Nat.add_sub_cancel_left]
  rfl
theorem row_at0 : (h ++ rs).row? h.length ver = rowO rs[0]? ver := qIe (j := 0)
theorem rowO_bx : rowO (some (bx cs e)) 0 = some ⟨cs,e,0,true⟩ := rfl
theorem qHz : rowO (some (bxQ cs ver)) ver = some ⟨cs,1,ver,true⟩ := by simp [rowO,bxQ]
theorem cell_at : (h ++ rs).cell? (h.length + j) off ver = (rowO rs[j]? ver).bind fun r => r.cells[off]? := by
  rw [Heap.cell?,qIe]
  cases rowO rs[j]? ver <;> rfl
theorem cells_at : (h ++ rs).cells? (h.length + j) off ver n = (rowO rs[j]? ver).bind fun r => if off + n ≤ r.cells.length then some ((r.cells.drop off).take n) else none := by
  rw [Heap.cells?,qIe]
  cases rowO rs[j]? ver <;> rfl
theorem store_at {r : Row} (hr : rowO rs[j]? ver = some r) (hv : cellsOf v = some vs) (hw : r.rw = true) (hn : vs.length = n) (ho : off + n ≤ r.cells.length) :
    storeV (h ++ rs) n (.pointer (some ⟨h.length + j,off,some ver⟩)) v = some (h ++ rs.set j (.row { r with cells := setAll r.cells off vs })) := by
  simp only [storeV,qIe,hr,hv,hw,hn,ho,and_self,if_true]
  rw [List.set_append_right _ _ (Nat.le_add_right _ _),Nat.add_sub_cancel_left]
/-- A number of a row is another one. -/
theorem storeQ_at {g : α → Value} {x : α} {m : List α} (hj : rs[j]? = some (bxQ (m.map g) ver)) (hv : v = g x) (hc : cellsOf (g x) = some [g x]) (ho : off < m.length) :
    storeV (h ++ rs) 1 (.pointer (some ⟨h.length + j,off,some ver⟩)) v = some (h ++ rs.set j (bxQ ((m.set off x).map g) ver)) := by
  rw [store_at (n := 1) (r := ⟨m.map g,1,ver,true⟩) (vs := [g x]) (by rw [hj]; exact qHz) (by rw [hv]; exact hc) rfl rfl (by simp; omega)]
  simp [bxQ,List.map_set]
theorem cut_at {r : Row} {lo hi : Option Value} {a b : Nat} (hr : rowO rs[j]? ver = some r) (he : r.esz = e) (hlo : loV lo = some a) (hhi : hiV len hi = some b) (hab : a ≤ b) :
    cutV (h ++ rs) e (.slice (some ⟨h.length + j,off,none⟩) len ver) lo hi = some (.slice (some ⟨h.length + j,off + a * e,none⟩) (b - a) ver) := by
  simp only [cutV,qIe,hr,hlo,hhi,he,hab,and_self,if_true]
theorem push_at {r : Row} {new : List Value} (hr : rowO rs[j]? ver = some r) (hv : pElems (h ++ rs) e v = some (n,new)) (hw : r.rw = true) (he : r.esz = e) (ho : off + len * e ≤ r.cells.length) (hl : len + n ≤ lim) :
    pApp (h ++ rs) e (.slice (some ⟨h.length + j,off,none⟩) len ver) v = some (.slice (some ⟨h.length + j,0,none⟩) (len + n) (ver + 1),h ++ rs.set j (.row ⟨(r.cells.drop off).take (len * e) ++ new,e,ver + 1,true⟩)) := by
  simp only [pApp,hv,pMore,qIe,hr,hw,he,ho,hl,and_self,if_true]
  rw [List.set_append_right _ _ (Nat.le_add_right _ _),Nat.add_sub_cancel_left]
/-- One more in a row of numbers. -/
theorem pushQ_at {new : List Value} {q : List Value} {pre : List Value} (hj : rs[j]? = some (bxQ (pre ++ q) ver)) (hv : pElems (h ++ rs) 1 v = some (n,new)) (hp : off = pre.length) (hq : len = q.length) (hl : len + n ≤ lim) :
    pApp (h ++ rs) 1 (.slice (some ⟨h.length + j,off,none⟩) len ver) v = some (.slice (some ⟨h.length + j,0,none⟩) (len + n) (ver + 1),h ++ rs.set j (bxQ (q ++ new) (ver + 1))) := by
  rw [push_at (r := ⟨pre ++ q,1,ver,true⟩) (by rw [hj]; exact qHz) hv rfl rfl (by simp [hp,hq]) hl]
  simp [bxQ,hp,hq]
theorem pElems_box {m : Nat} (hj : rs[m]? = some (bx cs e)) (hl : cs.length = n * e) : pElems (h ++ rs) e (.slice (some ⟨h.length + m,0,none⟩) n 0) = some (n,cs) := by
  rw [qCp,cells_at,hj,rowO_bx]
  simp [← hl]
/-- Rows that are made,or grow,are of as many cells an element. -/
theorem pApp_esz {H H' : Heap} {s x w : Value} (hp : pApp H e s x = some (w,H')) {id : Nat} {r : Row} (hr : H'[id]? = some (.row r)) : r.esz = e ∨ H[id]? = some (.row r) := by
  unfold pApp at hp
  split at hp
  · rename_i n new _
    unfold pMore at hp
    split at hp
    · split at hp
      · cases hp; exact .inr hr
      · split at hp
        · cases hp
          by_cases hi : id < H.length
          · rw [show Am.newRow H new e = H ++ [.row ⟨new,e,0,true⟩] from rfl,List.getElem?_append_left hi] at hr
            exact .inr hr
          · rw [show Am.newRow H new e = H ++ [.row ⟨new,e,0,true⟩] from rfl,List.getElem?_append_right (by omega)] at hr
            have : id - H.length = 0 := by
              have := (List.getElem?_eq_some_iff.1 hr).1
              simp at this; omega
            rw [this] at hr
            simp at hr
            subst hr; exact .inl rfl
        · cases hp
    · split at hp
      · split at hp
        · cases hp
          rw [List.getElem?_set] at hr
          split at hr
          · split at hr
            · cases hr; exact .inl rfl
            · cases hr
          · exact .inr hr
        · cases hp
      · cases hp
    · cases hp
  · cases hp
theorem pushN {new : List Value} (hv : pElems h e v = some (n,new)) (hn : 0 < n) (hl : n ≤ lim) : pApp h e nilS v = some (.slice (some ⟨h.length,0,none⟩) n 0,h ++ [bx new e]) := by
  simp only [pApp,hv,pMore,if_neg (show ¬ n = 0 by omega),if_pos hl]; rfl
theorem storeB_L {x : α} (hc : cellsOf (f x) = some [f x]) : storeB (some (bxL f l)) off 1 [f x] = if off < l.length then some (bxL f (l.set off x)) else none := by
  unfold bxL
  rw [qAc]
  simp only [List.length_singleton,true_and,List.length_map]
  split
  · rename_i h1
    rw [if_pos (by omega)]
    simp [List.map_set]
  · rw [if_neg (by omega)]
theorem storeB_U {x : Nat} {l : List Nat} : storeB (some (bxL vU l)) off 1 [.int .u64 x] = if off < l.length then some (bxL vU (l.set off x)) else none := storeB_L (f := vU) rfl
theorem bx_repU : bx (rep n [.int .u64 0]) 1 = bxL vU (List.replicate n 0) := by
  have : ∀ n,rep n [.int .u64 0] = (List.replicate n 0).map vU := by
    intro n
    induction n with
    | zero => rfl
    | succ n ih => simp [rep,ih,List.replicate_succ]
  rw [this]; rfl
end
end Pm
