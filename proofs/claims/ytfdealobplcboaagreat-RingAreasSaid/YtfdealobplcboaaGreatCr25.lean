/- Part 25 of what the statement needs: an executor of Go texts, arithmetic, and contracts of the functions that are called. -/
import Derived.Test.YtfdealobplcboaaGreatCr12
import Derived.Test.YtfdealobplcboaaGreatCr16
import Derived.Test.YtfdealobplcboaaGreatCr24
set_option linter.unusedVariables false
set_option linter.unusedSimpArgs false
namespace Go.Proofs.YtfdealobplcboaaGreat.Sx
def pathE : Pq -> List Pq -> List Sq
 | _, [] => []
 | p, q :: r => ⟨p, q⟩ :: pathE q r
def endP : Pq -> List Pq -> Pq
 | p, [] => p
 | _, q :: r => endP q r
theorem path_len : ∀ (p : Pq) (l : List Pq), (pathE p l).length = l.length
 | _, [] => rfl
 | _, q :: r => by simp [pathE, path_len q r]
theorem path_get : ∀ (p : Pq) (l : List Pq) (i : Nat), i < l.length -> (pathE p l)[i]? = some ⟨at' (p :: l) i, at' (p :: l) (i + 1)⟩
 | _, [], i, h => by simp at h
 | p, q :: r, 0, h => rfl
 | p, q :: r, i + 1, h => by
  have := path_get q r i (by simpa using h)
  simp only [pathE, List.getElem?_cons_succ, this]
  rfl
theorem end_at : ∀ (p : Pq) (l : List Pq), endP p l = at' (p :: l) l.length
 | _, [] => rfl
 | p, q :: r => by
  rw [endP, end_at q r]; rfl
theorem edges_cons (p : Pq) (l : List Pq) : edgesQ (p :: l) = pathE p l ++ [⟨endP p l, p⟩] := by
 apply List.ext_getElem?
 intro i
 unfold edgesQ
 rw [List.getElem?_map]
 rcases Nat.lt_trichotomy i l.length with h | h | h
 ·rw [List.getElem?_append_left (by rw [path_len]; exact h), path_get p l i h, List.getElem?_eq_getElem (by simp; omega)]
  simp only [List.getElem_range, Option.map_some, edgeQ, List.length_cons]
  rw [Nat.mod_eq_of_lt (by omega)]
 ·subst h
  rw [List.getElem?_append_right (by rw [path_len]; exact Nat.le_refl _), path_len, Nat.sub_self, List.getElem?_eq_getElem (by simp)]
  simp only [List.getElem_range, Option.map_some, edgeQ, List.length_cons, Nat.mod_self, end_at]
  rfl
 ·rw [List.getElem?_eq_none (by simp; omega), List.getElem?_eq_none (by rw [List.length_append, path_len, List.length_singleton]; omega)]
  rfl
theorem path_app : ∀ (p : Pq) (l : List Pq) (q : Pq) (r : List Pq), pathE p (l ++ q :: r) = pathE p l ++ ⟨endP p l, q⟩ :: pathE q r
 | _, [], _, _ => rfl
 | p, x :: l, q, r => by
  show ⟨p, x⟩ :: pathE x (l ++ q :: r) = ⟨p, x⟩ :: (pathE x l ++ ⟨endP x l, q⟩ :: pathE q r)
  rw [path_app x l q r]
theorem end_app : ∀ (p : Pq) (l : List Pq) (q : Pq) (r : List Pq), endP p (l ++ q :: r) = endP q r
 | _, [], _, _ => rfl
 | p, x :: l, q, r => end_app x l q r
theorem edges_app (p : Pq) (l : List Pq) (q : Pq) (r : List Pq) : edgesQ (p :: l ++ q :: r) = pathE p l ++ ⟨endP p l, q⟩ :: (pathE q r ++ [⟨endP q r, p⟩]) := by
 show edgesQ (p :: (l ++ q :: r)) = _
 rw [edges_cons, path_app, end_app]; simp
/-- Another beginning. -/
theorem edges_rot (l1 l2 : List Pq) : (edgesQ (l2 ++ l1)).Perm (edgesQ (l1 ++ l2)) := by
 match l1, l2 with
 | [], l2 => simp
 | l1, [] => simp
 | p :: l, q :: r =>
  rw [edges_app, edges_app]
  have e1 : pathE q r ++ ⟨endP q r, p⟩ :: (pathE p l ++ [⟨endP p l, q⟩]) = (pathE q r ++ [⟨endP q r, p⟩]) ++ (pathE p l ++ [⟨endP p l, q⟩]) := by simp
  have e2 : pathE p l ++ ⟨endP p l, q⟩ :: (pathE q r ++ [⟨endP q r, p⟩]) = (pathE p l ++ [⟨endP p l, q⟩]) ++ (pathE q r ++ [⟨endP q r, p⟩]) := by simp
  rw [e1, e2]
  exact List.perm_append_comm
def Sq.rev (s : Sq) : Sq := ⟨s.b, s.a⟩
theorem path_rev : ∀ (p : Pq) (l : List Pq) (x : Pq), pathE x (l.reverse ++ [p]) = ⟨x, endP p l⟩ :: ((pathE p l).map Sq.rev).reverse
 | p, [], x => rfl
 | p, q :: r, x => by
  have h := path_rev q r x
  rw [List.reverse_cons, List.append_assoc]
  show pathE x (r.reverse ++ q :: [p]) = _
  rw [path_app]
  have h2 : pathE x (r.reverse ++ [q]) = pathE x r.reverse ++ [⟨endP x r.reverse, q⟩] := path_app x r.reverse q []
  rw [h2] at h
  show pathE x r.reverse ++ ⟨endP x r.reverse, q⟩ :: [⟨q, p⟩] = ⟨x, endP q r⟩ :: (((⟨p, q⟩ : Sq) :: pathE q r).map Sq.rev).reverse
  rw [List.map_cons, List.reverse_cons, <- List.cons_append, <- h]
  simp [Sq.rev]
/-- The opposite order. -/
theorem edges_rev (l : List Pq) : (edgesQ l.reverse).Perm ((edgesQ l).map Sq.rev) := by
 match l with
 | [] => exact .refl _
 | p :: l =>
  rw [List.reverse_cons]
  have h1 : (edgesQ (l.reverse ++ [p])).Perm (edgesQ ([p] ++ l.reverse)) := edges_rot [p] l.reverse
  refine h1.trans ?_
  show (edgesQ (p :: l.reverse)).Perm _
  rw [edges_cons, edges_cons]
  have h2 : pathE p l.reverse ++ [⟨endP p l.reverse, p⟩] = pathE p (l.reverse ++ [p]) := (path_app p l.reverse p []).symm
  rw [h2, path_rev, List.map_append]
  have h3 : ([⟨endP p l, p⟩] : List Sq).map Sq.rev = [⟨p, endP p l⟩] := rfl
  rw [h3]
  refine List.Perm.trans ?_ List.perm_append_comm
  exact List.Perm.cons _ (List.reverse_perm _)
/-- Two closed polygons with a common first point, one behind the other. -/
theorem edges_two (p : Pq) (l r : List Pq) : edgesQ (p :: l ++ p :: r) = edgesQ (p :: l) ++ edgesQ (p :: r) := by
 rw [edges_app, edges_cons, edges_cons]; simp
/-- Cut between two vertices. -/
theorem edges_cut (p : Pq) (l : List Pq) (q : Pq) (r : List Pq) : (edgesQ (p :: l ++ [q]) ++ edgesQ (q :: r ++ [p])).Perm (edgesQ (p :: l ++ q :: r) ++ [⟨q, p⟩, ⟨p, q⟩]) := by
 have h1 := edges_app p l q []
 have h2 := edges_app q r p []
 rw [h1, h2, edges_app]
 have e1 : pathE p l ++ (⟨endP p l, q⟩ : Sq) :: ([] ++ [(⟨q, p⟩ : Sq)]) ++ (pathE q r ++ (⟨endP q r, p⟩ : Sq) :: ([] ++ [(⟨p, q⟩ : Sq)])) = (pathE p l ++ [⟨endP p l, q⟩]) ++ ([⟨q, p⟩] ++ (pathE q r ++ [⟨endP q r, p⟩])) ++ [⟨p, q⟩] := by simp
 have e2 : pathE p l ++ ⟨endP p l, q⟩ :: (pathE q r ++ [⟨endP q r, p⟩]) ++ [⟨q, p⟩, ⟨p, q⟩] = (pathE p l ++ [⟨endP p l, q⟩]) ++ ((pathE q r ++ [⟨endP q r, p⟩]) ++ [⟨q, p⟩]) ++ [⟨p, q⟩] := by simp
 show (pathE p l ++ (⟨endP p l, q⟩ : Sq) :: ([] ++ [(⟨q, p⟩ : Sq)]) ++ (pathE q r ++ (⟨endP q r, p⟩ : Sq) :: ([] ++ [(⟨p, q⟩ : Sq)]))).Perm _
 rw [e1, e2]
 exact (List.Perm.append_left _ List.perm_append_comm).append_right _
theorem sumE_cons (f : Sq -> Rat) (e : Sq) (es : List Sq) : sumE f (e :: es) = f e + sumE f es := by
 have key : ∀ (es : List Sq) (s t : Rat), es.foldl (fun s e => s + f e) (s + t) = s + es.foldl (fun s e => s + f e) t := by
  intro es
  induction es with
  | nil => intro s t; rfl
  | cons e es ih => intro s t; rw [List.foldl_cons, List.foldl_cons, Rat.add_assoc, ih]
 unfold sumE
 rw [List.foldl_cons, Rat.zero_add]
 have := key es (f e) 0
 rwa [Rat.add_zero] at this
theorem sumE_perm (f : Sq -> Rat) {es es' : List Sq} (h : es.Perm es') : sumE f es = sumE f es' := by
 induction h with
 | nil => rfl
 | cons e _ ih => rw [sumE_cons, sumE_cons, ih]
 | swap a b l => rw [sumE_cons, sumE_cons, sumE_cons, sumE_cons]; grind
 | trans _ _ h1 h2 => exact h1.trans h2
theorem sumE_app (f : Sq -> Rat) : ∀ (es es' : List Sq), sumE f (es ++ es') = sumE f es + sumE f es'
 | [], es' => by rw [List.nil_append]; show _ = 0 + _; rw [Rat.zero_add]
 | e :: es, es' => by rw [List.cons_append, sumE_cons, sumE_cons, sumE_app f es es']; grind
theorem sumE_rev : ∀ (es : List Sq), sumE crE (es.map Sq.rev) = - sumE crE es
 | [] => by show (0 : Rat) = -0; grind
 | e :: es => by
  rw [List.map_cons, sumE_cons, sumE_cons, sumE_rev es]
  have : crE e.rev = - crE e := by simp only [crE, Sq.rev, Pq.cross]; grind
  rw [this]; grind
theorem area_rot (l1 l2 : List Pq) : areaQ (l2 ++ l1) = areaQ (l1 ++ l2) := by unfold areaQ; rw [sumE_perm _ (edges_rot l1 l2)]
theorem area_rev (l : List Pq) : areaQ l.reverse = - areaQ l := by
 unfold areaQ
 rw [sumE_perm _ (edges_rev l), sumE_rev, Rat.div_def, Rat.div_def]; grind
theorem area_cut (p : Pq) (l : List Pq) (q : Pq) (r : List Pq) : areaQ (p :: l ++ [q]) + areaQ (q :: r ++ [p]) = areaQ (p :: l ++ q :: r) := by
 have h := sumE_perm crE (edges_cut p l q r)
 rw [sumE_app, sumE_app] at h
 have h2 : sumE crE [⟨q, p⟩, ⟨p, q⟩] = 0 := by
  rw [sumE_cons, sumE_cons]
  show _ + (_ + 0) = 0
  simp only [crE, Pq.cross]; grind
 rw [h2] at h
 unfold areaQ
 rw [Rat.div_def, Rat.div_def, Rat.div_def]; grind
/-- A translation. -/
theorem path_map (v : Pq) : ∀ (p : Pq) (l : List Pq), sumE crE (pathE (p.add v) (l.map (·.add v))) = sumE crE (pathE p l) + (p.sub (endP p l)).cross v
 | p, [] => by
  show (0 : Rat) = 0 + _
  simp only [endP, Pq.cross, Pq.sub]; grind
 | p, q :: r => by
  have h := path_map v q r
  simp only [List.map_cons, pathE, endP, sumE_cons]
  rw [h]
  simp only [crE, Pq.cross, Pq.sub, Pq.add]; grind
theorem end_map (v : Pq) : ∀ (p : Pq) (l : List Pq), endP (p.add v) (l.map (·.add v)) = (endP p l).add v
 | p, [] => rfl
 | p, q :: r => end_map v q r
theorem area_map (v : Pq) (l : List Pq) : areaQ (l.map (·.add v)) = areaQ l := by
 match l with
 | [] => rfl
 | p :: l =>
  unfold areaQ
  rw [List.map_cons, edges_cons, edges_cons, sumE_app, sumE_app, path_map, end_map]
  have : ∀ x y : Rat, x = y -> x / ((2 : Int) : Rat) = y / ((2 : Int) : Rat) := fun x y h => by rw [h]
  apply this
  rw [sumE_cons, sumE_cons]
  show _ + (_ + 0) = _ + (_ + 0)
  simp only [crE, Pq.cross, Pq.sub, Pq.add]; grind
end Go.Proofs.YtfdealobplcboaaGreat.Sx

set_option linter.unusedVariables false
set_option linter.unusedSimpArgs false
namespace Go.Proofs.YtfdealobplcboaaGreat.Sx
theorem parE_from (p : Pq) : ∀ (es : List Sq) (b : Bool), es.foldl (fun b e => if oddE p e = true then !b else b) b = (b != parE p es)
 | [], b => by show b = (b != false); cases b <;> rfl
 | e :: es, b => by
  have h1 := parE_from p es (if oddE p e = true then !b else b)
  have h2 := parE_from p es (if oddE p e = true then !false else false)
  show es.foldl _ (if oddE p e = true then !b else b) = (b != es.foldl _ (if oddE p e = true then !false else false))
  rw [h1, h2]
  cases oddE p e <;> cases b <;> cases parE p es <;> rfl
theorem parE_cons (p : Pq) (e : Sq) (es : List Sq) : parE p (e :: es) = (oddE p e != parE p es) := by
 have h := parE_from p es (if oddE p e = true then !false else false)
 show es.foldl _ (if oddE p e = true then !false else false) = _
 rw [h]
 cases oddE p e <;> rfl
theorem parE_app (p : Pq) (es es' : List Sq) : parE p (es ++ es') = (parE p es != parE p es') := by
 have h := parE_from p es' (parE p es)
 rw [<- h]
 unfold parE
 rw [List.foldl_append]
theorem parE_perm (p : Pq) {es es' : List Sq} (h : es.Perm es') : parE p es = parE p es' := by
 induction h with
 | nil => rfl
 | cons e _ ih => rw [parE_cons, parE_cons, ih]
 | swap a b l =>
  rw [parE_cons, parE_cons, parE_cons, parE_cons]
  cases oddE p a <;> cases oddE p b <;> cases parE p l <;> rfl
 | trans _ _ h1 h2 => exact h1.trans h2
theorem oddE_rev (p : Pq) (e : Sq) : oddE p e.rev = oddE p e := by
 unfold oddE Sq.rev
 dsimp only
 cases upQ e.a p <;> cases upQ e.b p <;> simp
theorem parE_rev (p : Pq) : ∀ es : List Sq, parE p (es.map Sq.rev) = parE p es
 | [] => rfl
 | e :: es => by rw [List.map_cons, parE_cons, parE_cons, oddE_rev, parE_rev p es]
theorem odd_two (a : Pq) (l r : List Pq) (p : Pq) : oddQ (a :: l ++ a :: r) p = (oddQ (a :: l) p != oddQ (a :: r) p) := by
 unfold oddQ
 rw [edges_two, parE_app]
theorem odd_turn (l1 l2 : List Pq) (p : Pq) : oddQ (l2 ++ l1).reverse p = oddQ (l1 ++ l2) p := by
 unfold oddQ
 rw [parE_perm p (edges_rev _), parE_rev, parE_perm p (edges_rot l1 l2)]
end Go.Proofs.YtfdealobplcboaaGreat.Sx

set_option linter.unusedVariables false
set_option linter.unusedSimpArgs false
namespace Go.Proofs.YtfdealobplcboaaGreat.Sx
end Go.Proofs.YtfdealobplcboaaGreat.Sx

set_option linter.unusedVariables false
set_option linter.unusedSimpArgs false
namespace Go.Proofs.YtfdealobplcboaaGreat.Sx
abbrev z0 : Pt := ⟨⟨false, ⟨#[]⟩, ⟨#[]⟩⟩, ⟨false, ⟨#[]⟩, ⟨#[]⟩⟩⟩
/-- Reverse. -/
structure RevP (l2 : List Pq) (i j : Int) (ys : List Pt) (l : List Pq) : Prop where
 h0 : 0 <= i
 eq : ys = l.map crP
 rv : RevI l2 l i.toNat j
structure RevF (l2 : List Pq) (L i j : Int) (ys : List Pt) (w1 w2 : Pt) (i' j' : Int) (ys' : List Pt) (l' : List Pq) : Prop where
 in1 : 0 <= i /\ i < L
 in2 : 0 <= j /\ j < L
 g1 : Env.std.get Pt ys j z0 = w1
 g2 : Env.std.get Pt ys i z0 = w2
 row : Env.std.set Pt (Env.std.set Pt ys i w1) j w2 = ys'
 add : Env.std.ib .add .i64 i 1 = i'
 sub : Env.std.ib .sub .i64 j 1 = j'
 inv : RevP l2 i' j' ys' l'
 mu : (j' - i').toNat < (j - i).toNat
theorem revF_ex {l2 : List Pq} {L : Int} (hL : L = l2.length) (hl : l2.length <= 4096) {i j : Int} {ys : List Pt} {l : List Pq} (h : RevP l2 i j ys l) (hij : i < j) : ∃ w1 w2 i' j' ys' l', RevF l2 L i j ys w1 w2 i' j' ys' l' := by
 have h0 := h.h0
 have h1 := h.rv.sum
 have h2 := h.rv.len
 have e : (i + 1).toNat = i.toNat + 1 := by omega
 have b1 : i.toNat < l.length := by omega
 have b2 : j.toNat < l.length := by omega
 refine ⟨crP (at' l j.toNat), crP (at' l i.toNat), i + 1, j - 1, (swp l i.toNat j.toNat).map crP, swp l i.toNat j.toNat, ⟨⟨h0, by omega⟩, ⟨by omega, by omega⟩, ?_, ?_, ?_, by rw [s_add, w64 (by omega) (by omega)], by rw [s_sub, w64 (by omega) (by omega)], ⟨by omega, rfl, ?_⟩, by omega⟩⟩
 ·show ys.getD j.toNat _ = _
  rw [h.eq, at_map b2]
 ·show ys.getD i.toNat _ = _
  rw [h.eq, at_map b1]
 ·show (ys.set i.toNat _).set j.toNat _ = _
  rw [h.eq]; unfold swp; rw [List.map_set, List.map_set]
 ·rw [e]
  exact h.rv.step (by omega)
end Go.Proofs.YtfdealobplcboaaGreat.Sx

set_option linter.unusedVariables false
set_option linter.unusedSimpArgs false
set_option maxRecDepth 100000
set_option maxHeartbeats 8000000
namespace Go.Proofs.YtfdealobplcboaaGreat.Sx
theorem turned_ok : InlOk Tryz.prog [(55, Tryz.f55, {}), (121, Tryz.f121, { ord := [(3, [0, 1, 2, 3, 4, 5, 6, 7, 8, 9, 10, 11, 12, 13, 14, 15])] })] :=
 InlOk.cons Tryz.func55 (by kernel_rfl) (InlOk.cons Tryz.func121 (by kernel_rfl) .nil)
theorem turned_q (l : List Pq) (h1 : 1 <= l.length) (hl : l.length <= 4096) : Con Tryz.prog 57 [.ro cP (l.map crP)] (.own 25 cP (l.reverse.map crP)) := by
 obtain ⟨ps, hps⟩ : ∃ p, p = l.map crP := ⟨_, rfl⟩
 obtain ⟨n, hn⟩ : ∃ n : Int, n = ps.length := ⟨_, rfl⟩
 have hnl : n = (l.length : Int) := by rw [hn, hps, List.length_map]
 have hln : Env.std.len Pt ps = n := by rw [s_len, hn]
 have tk9 : Env.std.tk Pt ps (Env.std.len Pt ps) = ps := by rw [s_tk, s_len]; exact List.take_of_length_le (by omega)
 obtain ⟨rs, hrs⟩ : ∃ p, p = l.reverse.map crP := ⟨_, rfl⟩
 rw [<- hps, <- hrs]
 have hn0 : ¬ n = 0 := by omega
 have fit9 : Env.std.fits (Env.std.ad 0 (Env.std.len Pt ps)) 80 := by
  rw [s_fits, hln]
  show 0 <= 0 + n /\ 0 + n <= _ /\ (0 + n) * 80 <= _
  omega
 have hL0 : Env.std.ad 0 (Env.std.len Pt ps) = n := by rw [hln]; show 0 + n = n; omega
 obtain ⟨j8, hj8⟩ : ∃ j : Int, j = n - 1 := ⟨_, rfl⟩
 obtain ⟨i8, hi8⟩ : ∃ j : Int, j = 0 := ⟨_, rfl⟩
 have hj8E : Env.std.ib .sub .i64 (Env.std.ad 0 (Env.std.len Pt ps)) 1 = j8 := by rw [hL0, s_sub, w64 (by omega) (by omega), hj8]
 have hR0 : RevP l i8 j8 ps l := ⟨by omega, hps, by
  have e : j8 = (l.length : Int) - 1 := by omega
  rw [hi8, e]; exact RevI.first l⟩
 have hrnd : ∀ i j ws l4, RevP l i j ws l4 -> i < j -> ∃ w1 w2 i' j' ys' l', RevF l n i j ws w1 w2 i' j' ys' l' := fun i j ws l4 h h' => revF_ex hnl hl h h'
 have hfin : ∀ i j ws l4, RevP l i j ws l4 -> ¬ i < j -> ws = rs /\ Env.std.tk Pt ws (Env.std.ad 0 (Env.std.len Pt ps)) = ws := fun i j ws l4 h h' => by
  have h0 := h.h0
  have e := h.rv.done (by omega)
  have e2 : ws = rs := by rw [h.eq, e, hrs]
  refine ⟨e2, ?_⟩
  rw [hL0, s_tk]
  exact List.take_of_length_le (by rw [h.eq, List.length_map, h.rv.len]; omega)
 clear hl h1 hps hrs
 refine Con.of ttOk mixed Tryz.func57 {} turned_ok 3 (by kernel_rfl) (fun P' E hP hE => ?_)
 cbv
 refine NilTo.mk ?_
 intro v hv
 refine fork.mk ?_ ?_
 ·intro g
  have h9 : Env.std.len Pt ps = 0 := by subst hE; exact hv g
  exact absurd h9 (by rw [hln]; exact hn0)
 intro g
 cbv
 refine ⟨ps, (by subst hE; exact Sm.of (c := cP) tk9.symm), ?_⟩
 cbv
 refine Need.mk (by subst hE; exact fit9) ?_
 cbv
 refine LoopTo.by (ι := Int × Int × List Pt × List Pq) (fun x => [(2, .v (.int .i64 x.1)), (3, .v (.int .i64 x.2.1))]) (fun x => [(2, .row true 25 cP x.2.2.1)]) (fun x => RevP l x.1 x.2.1 x.2.2.1 x.2.2.2) (fun x => (x.2.1 - x.1).toNat) (i8, j8, ps, l) [] hR0 ?_ ?_
 ·cbv
  subst hE
  and_intros
  all_goals first
   | exact True.intro
   | rfl
   | exact congrArg (fun x => AV.v (Value.int .i64 x)) hi8.symm
   | exact congrArg (fun x => Value.int .i64 x) hi8.symm
   | exact congrArg (fun x => AV.v (Value.int .i64 x)) hj8E
   | exact congrArg (fun x => Value.int .i64 x) hj8E
   | exact Sm.of (c := cP) (rfl : Env.std.app Pt (Env.std.tk Pt [] 0) ps = ps)
   | (simp; done)
   | fail
 ·rintro ⟨i, j, ws, l4⟩ hi
  have hi : RevP l i j ws l4 := hi
  clear hR0
  cbv
  refine fork.mk ?_ ?_
  ·intro g8
   have hlt : i < j := by subst hE; simpa [Env.std] using g8
   refine Exists.elim (hrnd i j ws l4 hi hlt) ?_
   intro w1 h
   refine Exists.elim h ?_
   intro w2 h
   refine Exists.elim h ?_
   intro i' h
   refine Exists.elim h ?_
   intro j' h
   refine Exists.elim h ?_
   intro ws' h
   refine Exists.elim h ?_
   intro l4' hf
   have in1 : 0 <= i /\ i < Env.std.ad 0 (Env.std.len Pt ps) := by rw [hL0]; exact hf.in1
   have in2 : 0 <= j /\ j < Env.std.ad 0 (Env.std.len Pt ps) := by rw [hL0]; exact hf.in2
   have hrw : Env.std.set Pt (Env.std.set Pt ws i (Env.std.get Pt ws j z0)) j (Env.std.get Pt ws i z0) = ws' := by rw [hf.g1, hf.g2]; exact hf.row
   have hai := hf.add
   have haj := hf.sub
   have hinv := hf.inv
   have hmu := hf.mu
   clear hf h hi g8 hlt
   cbv
   refine Need.mk (by subst hE; exact in2) ?_
   cbv
   refine Need.mk (by subst hE; exact in1) ?_
   cbv
   refine Need.mk (by subst hE; exact in1) ?_
   cbv
   refine Need.mk (by subst hE; exact in2) ?_
   cbv
   refine ⟨(i', j', ws', l4'), [], hinv, hmu, ?_⟩
   cbv
   subst hE
   and_intros
   all_goals first
    | exact True.intro
    | rfl
    | exact congrArg (fun x => AV.v (Value.int .i64 x)) hai
    | exact congrArg (fun x => Value.int .i64 x) hai
    | exact congrArg (fun x => AV.v (Value.int .i64 x)) haj
    | exact congrArg (fun x => Value.int .i64 x) haj
    | exact Sm.of hrw
    | (simp; done)
    | fail
  ·intro g8
   have hge : ¬ i < j := by subst hE; simpa [Env.std] using g8
   have hd := hfin i j ws l4 hi hge
   clear hi hge g8 hfin hrnd
   cbv
   subst hE
   exact Sm.of (c := cP) (hd.2.trans hd.1)
theorem forkYes {b : Bool} {x y : Unit -> Prop} (h : b = true) (hx : x ()) : fork b x y := ⟨fun _ => hx, fun e => by rw [h] at e; cases e⟩
theorem forkNo {b : Bool} {x y : Unit -> Prop} (h : b = false) (hy : y ()) : fork b x y := ⟨fun e => (by rw [h] at e; cases e), fun _ => hy⟩
/-- What slices.Concat of two lists (of X and Y points) asks for. -/
structure CatF (X Y : Int) : Prop where
 f1 : Env.std.ic .lss (Env.std.ib .add .i64 0 X) 0 = false
 f2 : Env.std.ic .lss (Env.std.ib .add .i64 (Env.std.ib .add .i64 0 X) Y) 0 = false
 f3 : Env.std.ic .gtr (Env.std.ib .sub .i64 (Env.std.ib .add .i64 (Env.std.ib .add .i64 0 X) Y) 0) 0 = true
 r3 : Env.std.rng 1 (Env.std.ib .sub .i64 (Env.std.ib .add .i64 (Env.std.ib .add .i64 0 X) Y) 0) (Env.std.ib .sub .i64 (Env.std.ib .add .i64 (Env.std.ib .add .i64 0 X) Y) 0) /\ Env.std.fits (Env.std.ib .sub .i64 (Env.std.ib .add .i64 (Env.std.ib .add .i64 0 X) Y) 0) 80
 r4 : Env.std.rng 0 0 (Env.std.ib .sub .i64 (Env.std.ib .add .i64 (Env.std.ib .add .i64 0 X) Y) 0)
theorem CatF.of {X Y : Int} (h0 : 0 <= X) (h1 : 0 <= Y) (h2 : 1 <= X + Y) (h3 : X + Y <= 100000) : CatF X Y := by
 have q1 : Env.std.ib .add .i64 0 X = X := by rw [s_add, w64 (by omega) (by omega)]; omega
 have q2 : Env.std.ib .add .i64 X Y = X + Y := by rw [s_add, w64 (by omega) (by omega)]
 have q3 : Env.std.ib .sub .i64 (X + Y) 0 = X + Y := by rw [s_sub, w64 (by omega) (by omega)]; omega
 constructor
 ·rw [q1]; exact decide_eq_false (by omega)
 ·rw [q1, q2]; exact decide_eq_false (by omega)
 ·rw [q1, q2, q3]; exact decide_eq_true (by omega)
 ·rw [q1, q2, q3, s_fits]
  refine ⟨⟨by omega, by omega, by omega⟩, ?_⟩
  show 0 <= X + Y /\ X + Y <= _ /\ (X + Y) * 80 <= _
  omega
 ·rw [q1, q2, q3]; exact ⟨by omega, by omega, by omega⟩
/-- The row that slices.Concat yields. -/
structure CatR (X Y : Int) (d1 d2 rs : List Pt) : Prop where
 t1 : Env.std.fits (Env.std.ad 0 (Env.std.len Pt d1)) 80
 t2 : Env.std.fits (Env.std.ad (Env.std.ad 0 (Env.std.len Pt d1)) (Env.std.len Pt d2)) 80
 row : Env.std.app Pt (Env.std.tk Pt (Env.std.app Pt (Env.std.tk Pt (Env.std.rep Pt (Env.std.ib .sub .i64 (Env.std.ib .add .i64 (Env.std.ib .add .i64 0 X) Y) 0) zQ) 0) d1) (Env.std.ad 0 (Env.std.len Pt d1))) d2 = rs
 tk : Env.std.tk Pt rs (Env.std.ad (Env.std.ad 0 (Env.std.len Pt d1)) (Env.std.len Pt d2)) = rs
 ln : Env.std.ad (Env.std.ad 0 (Env.std.len Pt d1)) (Env.std.len Pt d2) = (rs.length : Int)
theorem CatR.of {X Y : Int} {d1 d2 : List Pt} (h1 : d1.length + d2.length <= 100000) : CatR X Y d1 d2 (d1 ++ d2) := by
 have e1 : Env.std.ad 0 (Env.std.len Pt d1) = (d1.length : Int) := by show 0 + (d1.length : Int) = _; omega
 have e2 : Env.std.ad (d1.length : Int) (Env.std.len Pt d2) = ((d1 ++ d2).length : Int) := by show (d1.length : Int) + (d2.length : Int) = _; rw [List.length_append]; omega
 constructor
 ·rw [e1, s_fits]
  show 0 <= (d1.length : Int) /\ (d1.length : Int) <= _ /\ (d1.length : Int) * 80 <= _
  omega
 ·rw [e1, e2, s_fits]
  have : (d1 ++ d2).length = d1.length + d2.length := List.length_append
  show 0 <= ((d1 ++ d2).length : Int) /\ ((d1 ++ d2).length : Int) <= _ /\ ((d1 ++ d2).length : Int) * 80 <= _
  omega
 ·rw [e1, s_app, s_app, s_tk, s_tk, List.take_of_length_le (by simp)]
  simp
 ·rw [e1, e2, s_tk]; exact List.take_of_length_le (by omega)
 ·rw [e1, e2]
theorem cat_ok : InlOk Tryz.prog [(56, Tryz.f56, { un := [(3, 3), (11, 3)] }), (134, Tryz.f134, {})] :=
 InlOk.cons Tryz.func56 (by kernel_rfl) (InlOk.cons Tryz.func134 (by kernel_rfl) .nil)
theorem from_q (ps : List Pt) (k : Int) (h0 : 0 <= k) (hk : k <= ps.length) (h1 : 1 <= ps.length) (hl : ps.length <= 4096) : Con Tryz.prog 59 [.ro cP ps, .v (.int .i64 k)] (.own 25 cP (ps.drop k.toNat ++ ps.take k.toNat)) := by
 obtain ⟨rs, hrs⟩ : ∃ p, p = ps.drop k.toNat ++ ps.take k.toNat := ⟨_, rfl⟩
 rw [<- hrs]
 obtain ⟨n, hn⟩ : ∃ n : Int, n = ps.length := ⟨_, rfl⟩
 obtain ⟨d1, hd1⟩ : ∃ d, d = ps.drop k.toNat := ⟨_, rfl⟩
 obtain ⟨d2, hd2⟩ : ∃ d, d = ps.take k.toNat := ⟨_, rfl⟩
 have hln : Env.std.len Pt ps = n := by rw [s_len, hn]
 have r1 : Env.std.rng k (Env.std.len Pt ps) (Env.std.len Pt ps) := by rw [hln]; show 0 <= k /\ k <= n /\ n <= n; omega
 have r2 : Env.std.rng 0 k (Env.std.len Pt ps) := by rw [hln]; show 0 <= 0 /\ 0 <= k /\ k <= n; omega
 have hsb : Env.std.sb (Env.std.len Pt ps) k = n - k := by rw [hln]; rfl
 have hc : CatF (Env.std.sb (Env.std.len Pt ps) k) k := CatF.of (by rw [hsb]; omega) h0 (by rw [hsb]; omega) (by rw [hsb]; omega)
 have hr : CatR (Env.std.sb (Env.std.len Pt ps) k) k d1 d2 rs := by
  rw [hrs, <- hd1, <- hd2]
  exact CatR.of (by rw [hd1, hd2, List.length_drop, List.length_take]; omega)
 have hw1 : d1 = Env.std.wnd Pt ps k (Env.std.sb (Env.std.len Pt ps) k) := by
  rw [hsb, hd1]; exact (List.take_of_length_le (by rw [List.length_drop]; omega)).symm
 have hw2 : d2 = Env.std.tk Pt ps k := by rw [hd2, s_tk]
 have f1 := hc.f1
 have f2 := hc.f2
 have f3 := hc.f3
 have r3 := hc.r3
 have r4 := hc.r4
 have t1 := hr.t1
 have t2 := hr.t2
 have hrow := hr.row
 have htk := hr.tk
 clear hc hr hd1 hd2 hrs hl
 refine Con.of ttOk mixed Tryz.func59 { ord := [(1, [0, 1, 2, 3, 4, 5, 6, 7, 8])] } cat_ok 3 (by kernel_rfl) (fun P' E hP hE => ?_)
 cbv
 refine Need.mk (by subst hE; exact r1) ?_
 cbv
 refine Need.mk (by subst hE; exact r2) ?_
 cbv
 refine forkNo (by subst hE; exact f1) ?_
 cbv
 refine forkNo (by subst hE; exact f2) ?_
 cbv
 refine forkNo (by subst hE; exact f2) ?_
 cbv
 refine forkYes (by subst hE; exact f3) ?_
 cbv
 refine Need.mk (by subst hE; and_intros <;> exact Int.le_refl _) ?_
 cbv
 refine Need.mk (by subst hE; exact r3) ?_
 cbv
 refine Need.mk (by subst hE; exact r4) ?_
 cbv
 refine ⟨d1, (by subst hE; exact Sm.of (c := cP) hw1), ?_⟩
 cbv
 refine Need.mk (by subst hE; exact t1) ?_
 cbv
 refine ⟨d2, (by subst hE; exact Sm.of (c := cP) hw2), ?_⟩
 cbv
 refine Need.mk (by subst hE; exact t2) ?_
 cbv
 subst hE
 exact Sm.of (c := cP) ((congrArg (fun z => Env.std.tk Pt z (Env.std.ad (Env.std.ad 0 (Env.std.len Pt d1)) (Env.std.len Pt d2))) hrow).trans htk)
end Go.Proofs.YtfdealobplcboaaGreat.Sx

set_option linter.unusedVariables false
set_option linter.unusedSimpArgs false
set_option maxRecDepth 100000
set_option maxHeartbeats 8000000
namespace Go.Proofs.YtfdealobplcboaaGreat.Sx
def bigC (p : Pt) : Bool := decide (24 < p.x.num.size) || decide (24 < p.x.den.size) || decide (24 < p.y.num.size) || decide (24 < p.y.den.size)
def bigG (l : List Pt) : Bool := decide ((14 < l.length /\ l.length <= 64) \/ 70 < l.length) || l.any bigC
theorem bigC_no {p : Pt} (h : bigC p = false) : IsP 24 p p.q := by
 simp only [bigC, Bool.or_eq_false_iff, decide_eq_false_iff_not, Nat.not_lt] at h
 exact ⟨Is.of _ h.1.1.1 h.1.1.2 (by decide), Is.of _ h.1.2 h.2 (by decide)⟩
theorem bigC_is {l : List Pt} (h : bigG l = false) : ∀ p ∈ l, IsP 24 p p.q := by
 intro p hp
 unfold bigG at h
 rw [Bool.or_eq_false_iff] at h
 have h2 := h.2
 rw [List.any_eq_false] at h2
 exact bigC_no (by simpa using h2 p hp)
theorem bigC_one {p : Pt} : bigG [p] = bigC p := by
 unfold bigG
 simp
structure GrtI (l : List Pt) (n i : Int) : Prop where
 h0 : 0 <= i
 h1 : i <= n
 no : (l.take i.toNat).any bigC = false
structure GrtF (l : List Pt) (r : Bool) (n i j : Int) (p : Pt) : Prop where
 in1 : 0 <= i /\ i < (l.length : Int)
 add : Env.std.ib .add .i64 i 1 = j
 g1 : Env.std.get Pt l i zQ = p
 y1 : (24 : Int) < p.x.num.size -> r = true
 y2 : (24 : Int) < p.x.den.size -> r = true
 y3 : (24 : Int) < p.y.num.size -> r = true
 y4 : (24 : Int) < p.y.den.size -> r = true
 no : ¬ (24 : Int) < p.x.num.size -> ¬ (24 : Int) < p.x.den.size -> ¬ (24 : Int) < p.y.num.size -> ¬ (24 : Int) < p.y.den.size -> GrtI l n j
 mu : (n - j).toNat < (n - i).toNat
theorem grtF_ex {l : List Pt} {r : Bool} {n i : Int} (hn : n = (l.length : Int)) (hl : l.length <= 140737488355328) (hr : r = l.any bigC) (h : GrtI l n i) (hi : i < n) : ∃ j p, GrtF l r n i j p := by
 obtain ⟨j, p, hp⟩ := lstF_ex hn hl h.h0 hi
 have hy : bigC p = true -> r = true := fun c => by rw [hr, List.any_eq_true]; exact ⟨p, hp.m1, c⟩
 refine ⟨j, p, hp.in1, hp.add, hp.g1, fun c => hy ?_, fun c => hy ?_, fun c => hy ?_, fun c => hy ?_, fun c1 c2 c3 c4 => ⟨hp.j0, hp.j1, ?_⟩, hp.mu⟩
 ·unfold bigC; rw [decide_eq_true (show 24 < p.x.num.size by omega)]; simp
 ·unfold bigC; rw [decide_eq_true (show 24 < p.x.den.size by omega)]; simp
 ·unfold bigC; rw [decide_eq_true (show 24 < p.y.num.size by omega)]; simp
 ·unfold bigC; rw [decide_eq_true (show 24 < p.y.den.size by omega)]; simp
 ·rw [hp.tk, List.any_append, h.no]
  simp only [Bool.false_or, List.any_cons, List.any_nil, Bool.or_false]
  unfold bigC
  rw [decide_eq_false (show ¬ 24 < p.x.num.size by omega), decide_eq_false (show ¬ 24 < p.x.den.size by omega), decide_eq_false (show ¬ 24 < p.y.num.size by omega), decide_eq_false (show ¬ 24 < p.y.den.size by omega)]; rfl
theorem great24_con (l : List Pt) (hl : l.length <= 9223372036854775807) : Con Tryz.prog 43 [.ro cP l] (.v (.bool (bigG l))) := by
 obtain ⟨r, hr⟩ : ∃ r, r = bigG l := ⟨_, rfl⟩
 rw [<- hr]
 obtain ⟨i0, hi0⟩ : ∃ i : Int, i = 0 := ⟨_, rfl⟩
 obtain ⟨n, hn⟩ : ∃ n : Int, n = l.length := ⟨_, rfl⟩
 have hln : Env.std.len Pt l = n := by rw [s_len, hn]
 have w1 : 14 < n -> n <= 64 -> r = true := fun h1 h2 => by rw [hr]; unfold bigG; rw [decide_eq_true (by omega)]; rfl
 have w2 : 70 < n -> r = true := fun h1 => by rw [hr]; unfold bigG; rw [decide_eq_true (by omega)]; rfl
 have w3 : ¬ (14 < n /\ n <= 64) -> ¬ 70 < n -> r = l.any bigC := fun h1 h2 => by rw [hr]; unfold bigG; rw [decide_eq_false (by omega)]; rfl
 have hp0 : GrtI l n i0 := ⟨by omega, by omega, by rw [hi0]; rfl⟩
 have hrnd : ¬ (14 < n /\ n <= 64) -> ¬ 70 < n -> ∀ i, GrtI l n i -> i < n -> ∃ j p, GrtF l r n i j p := fun h1 h2 i h h' => grtF_ex hn (by omega) (w3 h1 h2) h h'
 have hfin : ¬ (14 < n /\ n <= 64) -> ¬ 70 < n -> ∀ i, GrtI l n i -> ¬ i < n -> r = false := fun h1 h2 i h h' => by
  have h9 := h.no
  have := h.h1
  rw [List.take_of_length_le (by omega)] at h9
  rw [w3 h1 h2, h9]
 clear hr hl w3
 refine Con.of ttOk mixed Tryz.func43 {} .nil 0 (by kernel_rfl) (fun P' E hP hE => ?_)
 cbv
 refine fork.mk ?_ ?_
 ·intro g
  have c1 : 14 < n := by subst hE; rw [<- hln]; simpa [Env.std] using g
  clear g
  cbv
  refine fork.mk ?_ ?_
  ·intro g
   have c2 : n <= 64 := by subst hE; rw [<- hln]; simpa [Env.std] using g
   have hx := w1 c1 c2
   cbv
   exact congrArg Value.bool hx.symm
  ·intro g
   have c2 : ¬ n <= 64 := by subst hE; rw [<- hln]; simpa [Env.std] using g
   clear g
   cbv
   refine fork.mk ?_ ?_
   ·intro g
    have c3 : 70 < n := by subst hE; rw [<- hln]; simpa [Env.std] using g
    have hx := w2 c3
    cbv
    exact congrArg Value.bool hx.symm
   ·intro g
    have c3 : ¬ 70 < n := by subst hE; rw [<- hln]; simpa [Env.std] using g
    have c4 : ¬ (14 < n /\ n <= 64) := fun h => c2 h.2
    have hrnd := hrnd c4 c3
    have hfin := hfin c4 c3
    clear g w1 w2 c1 c2 c3 c4
    cbv
    refine LoopTo.by (ι := Int) (fun x => [(3, .v (.int .i64 x))]) (fun x => []) (fun x => GrtI l n x) (fun x => (n - x).toNat) i0 [] hp0 ?_ ?_
    ·cbv
     subst hE
     and_intros
     all_goals first
      | exact True.intro
      | rfl
      | exact congrArg (fun x => AV.v (Value.int .i64 x)) hi0.symm
      | exact congrArg (fun x => Value.int .i64 x) hi0.symm
      | (simp; done)
      | fail
    ·intro i hi
     have hi : GrtI l n i := hi
     clear hp0
     cbv
     refine fork.mk ?_ ?_
     ·intro g
      have hlt : i < n := by subst hE; rw [<- hln]; simpa [Env.std] using g
      refine Exists.elim (hrnd i hi hlt) ?_
      intro j h
      refine Exists.elim h ?_
      intro p hf
      have in1 := hf.in1
      have hadd := hf.add
      have hget := hf.g1
      have y1 := hf.y1
      have y2 := hf.y2
      have y3 := hf.y3
      have y4 := hf.y4
      have hno := hf.no
      have hmu := hf.mu
      clear hf h hi hlt g hrnd
      cbv
      refine Need.mk (by subst hE; exact in1) ?_
      cbv
      refine fork.mk ?_ ?_
      ·intro k1
       have c1 : (24 : Int) < p.x.num.size := by
        subst hE
        have k1 : decide ((Env.std.get Pt l i _).x.num.size > (24 : Int)) = true := k1
        rw [hget] at k1
        simpa using k1
       have hr := y1 c1
       cbv
       exact congrArg Value.bool hr.symm
      ·intro k1
       have c1 : ¬ (24 : Int) < p.x.num.size := by
        subst hE
        have k1 : decide ((Env.std.get Pt l i _).x.num.size > (24 : Int)) = false := k1
        rw [hget] at k1
        simpa using k1
       clear k1
       cbv
       refine Need.mk (by subst hE; exact in1) ?_
       cbv
       refine fork.mk ?_ ?_
       ·intro k2
        have c2 : (24 : Int) < p.x.den.size := by
         subst hE
         have k2 : decide ((Env.std.get Pt l i _).x.den.size > (24 : Int)) = true := k2
         rw [hget] at k2
         simpa using k2
        have hr := y2 c2
        cbv
        exact congrArg Value.bool hr.symm
       ·intro k2
        have c2 : ¬ (24 : Int) < p.x.den.size := by
         subst hE
         have k2 : decide ((Env.std.get Pt l i _).x.den.size > (24 : Int)) = false := k2
         rw [hget] at k2
         simpa using k2
        clear k2
        cbv
        refine Need.mk (by subst hE; exact in1) ?_
        cbv
        refine fork.mk ?_ ?_
        ·intro k3
         have c3 : (24 : Int) < p.y.num.size := by
          subst hE
          have k3 : decide ((Env.std.get Pt l i _).y.num.size > (24 : Int)) = true := k3
          rw [hget] at k3
          simpa using k3
         have hr := y3 c3
         cbv
         exact congrArg Value.bool hr.symm
        ·intro k3
         have c3 : ¬ (24 : Int) < p.y.num.size := by
          subst hE
          have k3 : decide ((Env.std.get Pt l i _).y.num.size > (24 : Int)) = false := k3
          rw [hget] at k3
          simpa using k3
         clear k3
         cbv
         refine Need.mk (by subst hE; exact in1) ?_
         cbv
         refine fork.mk ?_ ?_
         ·intro k4
          have c4 : (24 : Int) < p.y.den.size := by
           subst hE
           have k4 : decide ((Env.std.get Pt l i _).y.den.size > (24 : Int)) = true := k4
           rw [hget] at k4
           simpa using k4
          have hr := y4 c4
          cbv
          exact congrArg Value.bool hr.symm
         ·intro k4
          have c4 : ¬ (24 : Int) < p.y.den.size := by
           subst hE
           have k4 : decide ((Env.std.get Pt l i _).y.den.size > (24 : Int)) = false := k4
           rw [hget] at k4
           simpa using k4
          clear k4
          have hst := hno c1 c2 c3 c4
          cbv
          refine ⟨j, [], hst, hmu, ?_⟩
          cbv
          subst hE
          and_intros
          all_goals first
           | exact True.intro
           | rfl
           | exact congrArg (fun x => AV.v (Value.int .i64 x)) hadd
           | exact congrArg (fun x => Value.int .i64 x) hadd
           | (simp; done)
           | fail
     ·intro g
      have hge : ¬ i < n := by subst hE; rw [<- hln]; simpa [Env.std] using g
      have hr := hfin i hi hge
      clear hi hge hfin hrnd g
      cbv
      exact congrArg Value.bool hr.symm
 ·intro g
  have c1 : ¬ 14 < n := by subst hE; rw [<- hln]; simpa [Env.std] using g
  clear g
  cbv
  refine fork.mk ?_ ?_
  ·intro g
   have c3 : 70 < n := by subst hE; rw [<- hln]; simpa [Env.std] using g
   have hx := w2 c3
   cbv
   exact congrArg Value.bool hx.symm
  ·intro g
   have c3 : ¬ 70 < n := by subst hE; rw [<- hln]; simpa [Env.std] using g
   have c4 : ¬ (14 < n /\ n <= 64) := fun h => c1 h.1
   have hrnd := hrnd c4 c3
   have hfin := hfin c4 c3
   clear g w1 w2 c1 c3 c4
   cbv
   refine LoopTo.by (ι := Int) (fun x => [(3, .v (.int .i64 x))]) (fun x => []) (fun x => GrtI l n x) (fun x => (n - x).toNat) i0 [] hp0 ?_ ?_
   ·cbv
    subst hE
    and_intros
    all_goals first
     | exact True.intro
     | rfl
     | exact congrArg (fun x => AV.v (Value.int .i64 x)) hi0.symm
     | exact congrArg (fun x => Value.int .i64 x) hi0.symm
     | (simp; done)
     | fail
   ·intro i hi
    have hi : GrtI l n i := hi
    clear hp0
    cbv
    refine fork.mk ?_ ?_
    ·intro g
     have hlt : i < n := by subst hE; rw [<- hln]; simpa [Env.std] using g
     refine Exists.elim (hrnd i hi hlt) ?_
     intro j h
     refine Exists.elim h ?_
     intro p hf
     have in1 := hf.in1
     have hadd := hf.add
     have hget := hf.g1
     have y1 := hf.y1
     have y2 := hf.y2
     have y3 := hf.y3
     have y4 := hf.y4
     have hno := hf.no
     have hmu := hf.mu
     clear hf h hi hlt g hrnd
     cbv
     refine Need.mk (by subst hE; exact in1) ?_
     cbv
     refine fork.mk ?_ ?_
     ·intro k1
      have c1 : (24 : Int) < p.x.num.size := by
       subst hE
       have k1 : decide ((Env.std.get Pt l i _).x.num.size > (24 : Int)) = true := k1
       rw [hget] at k1
       simpa using k1
      have hr := y1 c1
      cbv
      exact congrArg Value.bool hr.symm
     ·intro k1
      have c1 : ¬ (24 : Int) < p.x.num.size := by
       subst hE
       have k1 : decide ((Env.std.get Pt l i _).x.num.size > (24 : Int)) = false := k1
       rw [hget] at k1
       simpa using k1
      clear k1
      cbv
      refine Need.mk (by subst hE; exact in1) ?_
      cbv
      refine fork.mk ?_ ?_
      ·intro k2
       have c2 : (24 : Int) < p.x.den.size := by
        subst hE
        have k2 : decide ((Env.std.get Pt l i _).x.den.size > (24 : Int)) = true := k2
        rw [hget] at k2
        simpa using k2
       have hr := y2 c2
       cbv
       exact congrArg Value.bool hr.symm
      ·intro k2
       have c2 : ¬ (24 : Int) < p.x.den.size := by
        subst hE
        have k2 : decide ((Env.std.get Pt l i _).x.den.size > (24 : Int)) = false := k2
        rw [hget] at k2
        simpa using k2
       clear k2
       cbv
       refine Need.mk (by subst hE; exact in1) ?_
       cbv
       refine fork.mk ?_ ?_
       ·intro k3
        have c3 : (24 : Int) < p.y.num.size := by
         subst hE
         have k3 : decide ((Env.std.get Pt l i _).y.num.size > (24 : Int)) = true := k3
         rw [hget] at k3
         simpa using k3
        have hr := y3 c3
        cbv
        exact congrArg Value.bool hr.symm
       ·intro k3
        have c3 : ¬ (24 : Int) < p.y.num.size := by
         subst hE
         have k3 : decide ((Env.std.get Pt l i _).y.num.size > (24 : Int)) = false := k3
         rw [hget] at k3
         simpa using k3
        clear k3
        cbv
        refine Need.mk (by subst hE; exact in1) ?_
        cbv
        refine fork.mk ?_ ?_
        ·intro k4
         have c4 : (24 : Int) < p.y.den.size := by
          subst hE
          have k4 : decide ((Env.std.get Pt l i _).y.den.size > (24 : Int)) = true := k4
          rw [hget] at k4
          simpa using k4
         have hr := y4 c4
         cbv
         exact congrArg Value.bool hr.symm
        ·intro k4
         have c4 : ¬ (24 : Int) < p.y.den.size := by
          subst hE
          have k4 : decide ((Env.std.get Pt l i _).y.den.size > (24 : Int)) = false := k4
          rw [hget] at k4
          simpa using k4
         clear k4
         have hst := hno c1 c2 c3 c4
         cbv
         refine ⟨j, [], hst, hmu, ?_⟩
         cbv
         subst hE
         and_intros
         all_goals first
          | exact True.intro
          | rfl
          | exact congrArg (fun x => AV.v (Value.int .i64 x)) hadd
          | exact congrArg (fun x => Value.int .i64 x) hadd
          | (simp; done)
          | fail
    ·intro g
     have hge : ¬ i < n := by subst hE; rw [<- hln]; simpa [Env.std] using g
     have hr := hfin i hi hge
     clear hi hge hfin hrnd g
     cbv
     exact congrArg Value.bool hr.symm
theorem great1_con (p : Pt) : Con Tryz.prog 52 [.v p.v] (.v (.bool (bigC p))) := by
 have kg := great24_con [p] (show (1 : Nat) <= 9223372036854775807 by decide)
 rw [bigC_one] at kg
 obtain ⟨r, hr⟩ : ∃ r, r = bigC p := ⟨_, rfl⟩
 rw [<- hr] at kg ⊢
 clear hr
 refine Con.of ttOk mixed Tryz.func52 {} .nil 0 (by kernel_rfl) (fun P' E hP hE => ?_)
 cbv
 refine CallTo.w hP hE kg ⟨⟨cP_ok, rfl, rfl, Nat.le_refl _⟩, trivial⟩ ?_
 cbv
end Go.Proofs.YtfdealobplcboaaGreat.Sx

set_option linter.unusedVariables false
set_option linter.unusedSimpArgs false
namespace Go.Proofs.YtfdealobplcboaaGreat.Sx
def St.nilC (s : St) (b o : Nat) (cs : List AV) (ty e : TypeId) (cd : Cd) : St := ⟨s.t, s.h.set b (.cells (cs.set o (.s s.h.length 0)) ty) ++ [.row true e cd []]⟩
theorem LoopTo.nilC {P : Program} {m : Nat} {c : Unit -> Code} {B : Unit -> (X -> St -> Prop) -> St -> Prop} {K : X -> St -> Prop} {s : St} (b o : Nat) {cs : List AV} {ty : TypeId} (e : TypeId) (cd : Cd) (hc : cd.Ok) (hb : s.h[b]? = some (.cells cs ty)) (hk : cs[o]? = some (.v (.slice none 0 0))) (h : LoopTo P m c B K (s.nilC b o cs ty e cd)) : LoopTo P m c B K s := by
 refine ⟨fun ro hB w0 β0 β M a w ht hw hx => ?_⟩
 have hblt : b < s.h.length := (List.getElem?_eq_some_iff.1 hb).1
 have hadd := hw.add (b := .row true e cd []) (l := ⟨0, none, 0, cd.sz, 0⟩) ⟨hc, rfl, rfl, World.ownsRow_nil _ _ _ _⟩ trivial (fun g hg => by simp [Blk.occ] at hg) (fun _ _ _ e => by cases e)
 have hb2 : (s.h ++ [Blk.row true e cd []])[b]? = some (.cells cs ty) := by rw [List.getElem?_append_left hblt]; exact hb
 obtain ⟨vs, hg, hvs⟩ := hadd.blk b _ hb2
 obtain ⟨u, hu, hr⟩ := AVRs_get hvs hk
 simp only [AVR] at hr
 subst hr
 have hset : vs.toList.set o (.slice none 0 0) = vs.toList := by
  apply List.ext_getElem?
  intro j
  rw [List.getElem?_set]
  split
  ·rename_i e; subst e
   rw [hu]
   split
   ·rfl
   ·rename_i hlt; exact absurd (List.getElem?_eq_some_iff.1 hu).1 hlt
  ·rfl
 have hvs2 : AVRs (grow β s.h.length ⟨0, none, 0, cd.sz, 0⟩) (cs.set o (.s s.h.length 0)) vs.toList := by
  have h2 := hvs.set (x := .s s.h.length 0) (u := .slice none 0 0) (avr_s (by omega) (by rw [grow_at]; simp) (by rw [grow_at]; simp)) o
  rw [hset] at h2; exact h2
 have hok : (Blk.cells cs ty).okh (s.h ++ [Blk.row true e cd []]).length := hadd.okh _ (List.mem_of_getElem? hb2)
 have hch := hadd.change hb2 (blk' := .cells (cs.set o (.s s.h.length 0)) ty) (by
  simp only [Blk.okh] at hok ⊢
  exact oks_set hok (by simp only [AV.ok, List.length_append, List.length_singleton]; omega) o) (g := ((grow β s.h.length ⟨0, none, 0, cd.sz, 0⟩) b).g) rfl rfl ⟨vs, hg, hvs2⟩ (fun _ _ => rfl) (Nat.le_refl _) rfl rfl rfl
 rw [List.set_append_left _ _ hblt] at hch
 refine h.out ro hB w0 β0 (grow β s.h.length ⟨0, none, 0, cd.sz, 0⟩) M a w ?_ hch ?_
 ·have e1 : (s.nilC b o cs ty e cd).h.length = s.h.length + 1 := by simp [St.nilC]
  rw [e1]
  exact ht.grow ⟨0, none, 0, cd.sz, 0⟩
 ·exact ⟨by have := hx.1; simp [St.nilC]; omega, fun i hi => by rw [grow_lt (Nat.lt_of_lt_of_le hi hx.1), hx.2 i hi]⟩
end Go.Proofs.YtfdealobplcboaaGreat.Sx
