/- Part 32 of what the statement needs: an executor of Go texts, arithmetic, and contracts of the functions that are called. -/
import Derived.Test.YtfdealobplcboaaGreatCr25
set_option linter.unusedVariables false
set_option linter.unusedSimpArgs false
namespace Go.Proofs.YtfdealobplcboaaGreat.Sx
theorem area_one (p : Pq) : areaQ [p] = 0 := by
 unfold areaQ
 rw [edges_cons]
 show sumE crE [⟨p, p⟩] / ((2 : Int) : Rat) = 0
 rw [sumE_cons]
 have : crE ⟨p, p⟩ = 0 := by simp only [crE, Pq.cross]; grind
 rw [this]
 show (0 + (0 : Rat)) / _ = 0
 rw [Rat.add_zero, Rat.div_def, Rat.zero_mul]
theorem area_again (p : Pq) (r : List Pq) : areaQ (p :: r ++ [p]) = areaQ (p :: r) := by
 unfold areaQ
 have h := edges_app p r p []
 rw [h, edges_cons, sumE_app, sumE_app, sumE_cons, sumE_cons]
 have : sumE crE ([] ++ [⟨p, p⟩]) = 0 := by
  show sumE crE [⟨p, p⟩] = 0
  rw [sumE_cons]
  have : crE ⟨p, p⟩ = 0 := by simp only [crE, Pq.cross]; grind
  rw [this]; show 0 + (0 : Rat) = 0; rw [Rat.add_zero]
 show (sumE crE (pathE p r) + (crE ⟨endP p r, p⟩ + sumE crE (pathE p [] ++ [⟨endP p [], p⟩]))) / _ = _
 have e2 : sumE crE (pathE p [] ++ [⟨endP p [], p⟩]) = 0 := this
 have e3 : sumE crE [] = 0 := rfl
 rw [e2, e3]
theorem area_from (A : List Pq) (x : Nat) : areaQ (A.drop x ++ A.take x) = areaQ A := by
 rw [area_rot, List.take_append_drop]
/-- Cut by a segment between two vertices. -/
theorem area_parts {A : List Pq} {x y : Nat} (hxy : x <= y) (hy : y < A.length) : areaQ ((A.drop x).take (y + 1 - x)) + areaQ (A.drop y ++ A.take (x + 1)) = areaQ A := by
 have hx : x < A.length := by omega
 have ex : A.drop x = A[x] :: A.drop (x + 1) := List.drop_eq_getElem_cons hx
 have ey : A.drop y = A[y] :: A.drop (y + 1) := List.drop_eq_getElem_cons hy
 have et : A.take (x + 1) = A.take x ++ [A[x]] := by rw [List.take_add_one, List.getElem?_eq_getElem hx]; rfl
 by_cases h : x = y
 ·subst h
  have e1 : (A.drop x).take (x + 1 - x) = [A[x]] := by
   rw [show x + 1 - x = 1 from by omega, ex]; rfl
  rw [e1, area_one, et, <- List.append_assoc, ex]
  have e2 := area_again A[x] (A.drop (x + 1) ++ A.take x)
  rw [show A[x] :: A.drop (x + 1) ++ A.take x ++ [A[x]] = A[x] :: (A.drop (x + 1) ++ A.take x) ++ [A[x]] from rfl, e2]
  have e3 := area_from A x
  rw [ex] at e3
  rw [Rat.zero_add]; exact e3
 ·have hlt : x < y := by omega
  have hm : (A.drop x).take (y + 1 - x) = A[x] :: (A.drop (x + 1)).take (y - x - 1) ++ [A[y]] := by
   rw [ex, show y + 1 - x = (y - x) + 1 from by omega, List.take_succ_cons]
   show _ :: _ = _ :: (_ ++ _)
   congr 1
   rw [show y - x = (y - x - 1) + 1 from by omega, List.take_add_one, List.getElem?_drop, show x + 1 + (y - x - 1) = y from by omega, List.getElem?_eq_getElem hy, show y - x - 1 + 1 - 1 = y - x - 1 from by omega]; rfl
  have hs : A.drop y ++ A.take (x + 1) = A[y] :: (A.drop (y + 1) ++ A.take x) ++ [A[x]] := by rw [ey, et, <- List.append_assoc]; rfl
  have hc := area_cut A[x] ((A.drop (x + 1)).take (y - x - 1)) A[y] (A.drop (y + 1) ++ A.take x)
  have hd : A.drop (x + 1) = (A.drop (x + 1)).take (y - x - 1) ++ A[y] :: A.drop (y + 1) := by
   have e5 : A.drop y = (A.drop (x + 1)).drop (y - x - 1) := by rw [List.drop_drop]; congr 1; omega
   rw [<- ey, e5, List.take_append_drop]
  have e3 := area_from A x
  rw [ex, hd] at e3
  rw [hm, hs, hc]
  rw [<- e3]
  congr 1
  simp only [List.cons_append, List.append_assoc]
end Go.Proofs.YtfdealobplcboaaGreat.Sx
