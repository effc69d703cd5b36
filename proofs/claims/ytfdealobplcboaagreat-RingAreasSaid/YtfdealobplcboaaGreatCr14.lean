/- Part 14 of what the statement needs: an executor of Go texts, arithmetic, and contracts of the functions that are called. -/
import Derived.Test.YtfdealobplcboaaGreatCr13
set_option linter.unusedVariables false
set_option linter.unusedSimpArgs false
set_option maxRecDepth 100000
set_option maxHeartbeats 4000000
namespace Go.Proofs.YtfdealobplcboaaGreat.Sx
theorem plus_core (xs ys r : List Int) (hx : Ok32 xs) (hy : Ok32 ys) (ha : xs.length <= 137438953472) (hb : ys.length <= 137438953472) (hr : r = lb (val xs + val ys).toNat) : Con Tryz.prog 188 [.ro cU xs, .ro cU ys] (.own 169 cU r) := by
 refine Con.of ttOk mixed Tryz.func188 {} .nil 0 (by kernel_rfl) (fun P' E hP hE => ?_)
 have hmk : ∀ X : List Int, X.length <= 137438953472 -> Env.std.rng 0 0 (Env.std.ib .add .i64 (Env.std.len Int X) 1) /\ Env.std.fits (Env.std.ib .add .i64 (Env.std.len Int X) 1) 4 := by
  intro X h
  rw [s_add, s_len, w64 (by omega) (by omega), s_rng, s_fits]; omega
 obtain ⟨i0, hi0⟩ : ∃ i : Int, i = 0 := ⟨_, rfl⟩
 obtain ⟨b0, hb0⟩ : ∃ b : List Int, b = [] := ⟨_, rfl⟩
 cbv
 refine ⟨fun h1 => ?_, fun h1 => ?_⟩
 ·have hl : xs.length <= ys.length := by
   subst hE
   have h : Env.std.ic .lss (Env.std.len Int xs) (Env.std.len Int ys) = true := h1
   simp at h
   omega
  cbv
  refine ⟨by subst hE; exact hmk ys hb, ?_⟩
  cbv
  refine LoopTo.by (ι := Int × Int × Int × List Int) (fun x => [(22, .v (.int .i64 x.1)), (6, .v (.int .u64 x.2.1)), (5, .s 2 x.2.2.1), (19, .any)]) (fun x => [(2, .row true 169 cU x.2.2.2)]) (fun x => PInv ys xs x.1 x.2.1 x.2.2.1 x.2.2.2) (fun x => (ys.length - x.1).toNat) (i0, i0, i0, b0) [] (PInv.zero hi0 hb0) ?_ ?_
  ·cbv
   subst hE
   and_intros
   all_goals first
    | exact Sm.of hb0.symm
    | (simp [hi0]; done)
  ·rintro ⟨i, c, l, o⟩ hi
   have hi : PInv ys xs i c l o := hi
   cbv
   refine ⟨fun h2 => ?_, fun h2 => ?_⟩
   ·have hlt : i < ys.length := by
     subst hE
     have h : Env.std.ic .lss i (Env.std.len Int ys) = true := h2
     simpa using h
    cbv
    refine ⟨by subst hE; exact ⟨hi.i0, hlt⟩, ?_⟩
    cbv
    refine ⟨fun h3 => ?_, fun h3 => ?_⟩
    ·have h3' : i < xs.length := by
      subst hE
      have h : Env.std.ic .lss i (Env.std.len Int xs) = true := h3
      simpa using h
     have q := hi.step hy hx hlt rfl
     have hfit : Env.std.fits (l + 1) 4 := by have hlt : i < (ys.length : Int) := hlt; rw [s_fits]; have := hi.l; have := hi.i0; omega
     cbv
     refine ⟨by subst hE; exact ⟨hi.i0, h3'⟩, ?_⟩
     cbv
     refine ⟨by subst hE; exact hfit, ?_⟩
     cbv
     refine ⟨by subst hE; simp, ?_⟩
     cbv
     obtain ⟨q1, q2, q3⟩ := q
     have e1 : Env.std.ib .add .u64 (Env.std.ib .add .u64 c (Env.std.cv .u64 (Env.std.get Int ys i 0))) (Env.std.cv .u64 (Env.std.get Int xs i 0)) = c + ys.getD i.toNat 0 + xs.getD i.toNat 0 := by
      have g1 := hy.get i.toNat
      have g2 := hx.get i.toNat
      have := hi.c0
      rw [s_add, s_add, s_cv, s_cv, s_get, s_get, wu64 (n := ys.getD i.toNat 0) (by omega) (by omega), wu64 (n := xs.getD i.toNat 0) (by omega) (by omega), wu64 (n := c + ys.getD i.toNat 0) (by omega) (by omega), wu64 (by omega) (by omega)]
     generalize c + ys.getD i.toNat 0 + xs.getD i.toNat 0 = s at q1 q2 q3 e1
     obtain ⟨i', hi'⟩ : ∃ j, j = i + 1 := ⟨_, rfl⟩
     obtain ⟨c', hc'⟩ : ∃ j, j = s / 4294967296 := ⟨_, rfl⟩
     obtain ⟨l', hl'⟩ : ∃ j, j = l + 1 := ⟨_, rfl⟩
     obtain ⟨o', ho'⟩ : ∃ j, j = o ++ [s % 4294967296] := ⟨_, rfl⟩
     rw [<- hi', <- hc', <- hl', <- ho'] at q3
     refine ⟨(i', c', l', o'), [0, 1, 4], q3, by have hlt : i < (ys.length : Int) := hlt; show ((ys.length : Int) - i').toNat < ((ys.length : Int) - i).toNat; omega, ?_⟩
     have hlr : ∀ a : List Int, a.length = 1 -> Env.std.ad l (Env.std.len Int a) = l' := by
      intro a ha
      rw [s_ad, s_len, ha, hl']; rfl
     have hrow : Env.std.app Int (Env.std.tk Int o l) [Env.std.cv .u32 (Env.std.ib .add .u64 (Env.std.ib .add .u64 c (Env.std.cv .u64 (Env.std.get Int ys i 0))) (Env.std.cv .u64 (Env.std.get Int xs i 0)))] = o' := by
      rw [e1, s_app, s_tk, List.take_of_length_le (by have := hi.len; have := hi.l; omega), s_cv, IntKind.wrap_u32, ho']
     have hcc : Env.std.ib .shr .u64 (Env.std.ib .add .u64 (Env.std.ib .add .u64 c (Env.std.cv .u64 (Env.std.get Int ys i 0))) (Env.std.cv .u64 (Env.std.get Int xs i 0))) 32 = c' := by
      rw [e1, s_shr, hc']
      exact Int.fdiv_eq_ediv_of_nonneg _ (by decide)
     have hii : Env.std.ib .add .i64 i 1 = i' := by
      have hlt : i < (ys.length : Int) := hlt
      have := hi.i0
      rw [s_add, w64 (by omega) (by omega), hi']
     cbv
     subst hE
     and_intros
     all_goals first
      | exact Sm.of hrow
      | exact congrArg (fun x => AV.v (Value.int .i64 x)) hii
      | exact congrArg (fun x => AV.v (Value.int .u64 x)) hcc
      | exact congrArg (AV.s 4) (hlr _ rfl)
      | (simp; done)
    ·have hy0 : xs.getD i.toNat 0 = 0 := by
      subst hE
      have h : Env.std.ic .lss i (Env.std.len Int xs) = false := h3
      have h : ¬ i < (xs.length : Int) := by simpa using h
      have := hi.i0
      rw [List.getD_eq_getElem?_getD, List.getElem?_eq_none (by omega)]; rfl
     have q := hi.step hy hx hlt rfl
     have hfit : Env.std.fits (l + 1) 4 := by have hlt : i < (ys.length : Int) := hlt; rw [s_fits]; have := hi.l; have := hi.i0; omega
     cbv
     refine ⟨by subst hE; exact hfit, ?_⟩
     cbv
     refine ⟨by subst hE; simp, ?_⟩
     cbv
     obtain ⟨q1, q2, q3⟩ := q
     have e1 : Env.std.ib .add .u64 c (Env.std.cv .u64 (Env.std.get Int ys i 0)) = c + ys.getD i.toNat 0 + xs.getD i.toNat 0 := by
      have g1 := hy.get i.toNat
      have g2 := hx.get i.toNat
      have := hi.c0
      rw [s_add, s_cv, s_get, wu64 (n := ys.getD i.toNat 0) (by omega) (by omega), wu64 (by omega) (by omega), hy0, Int.add_zero]
     generalize c + ys.getD i.toNat 0 + xs.getD i.toNat 0 = s at q1 q2 q3 e1
     obtain ⟨i', hi'⟩ : ∃ j, j = i + 1 := ⟨_, rfl⟩
     obtain ⟨c', hc'⟩ : ∃ j, j = s / 4294967296 := ⟨_, rfl⟩
     obtain ⟨l', hl'⟩ : ∃ j, j = l + 1 := ⟨_, rfl⟩
     obtain ⟨o', ho'⟩ : ∃ j, j = o ++ [s % 4294967296] := ⟨_, rfl⟩
     rw [<- hi', <- hc', <- hl', <- ho'] at q3
     refine ⟨(i', c', l', o'), [0, 1, 4], q3, by have hlt : i < (ys.length : Int) := hlt; show ((ys.length : Int) - i').toNat < ((ys.length : Int) - i).toNat; omega, ?_⟩
     have hlr : ∀ a : List Int, a.length = 1 -> Env.std.ad l (Env.std.len Int a) = l' := by
      intro a ha
      rw [s_ad, s_len, ha, hl']; rfl
     have hrow : Env.std.app Int (Env.std.tk Int o l) [Env.std.cv .u32 (Env.std.ib .add .u64 c (Env.std.cv .u64 (Env.std.get Int ys i 0)))] = o' := by
      rw [e1, s_app, s_tk, List.take_of_length_le (by have := hi.len; have := hi.l; omega), s_cv, IntKind.wrap_u32, ho']
     have hcc : Env.std.ib .shr .u64 (Env.std.ib .add .u64 c (Env.std.cv .u64 (Env.std.get Int ys i 0))) 32 = c' := by
      rw [e1, s_shr, hc']
      exact Int.fdiv_eq_ediv_of_nonneg _ (by decide)
     have hii : Env.std.ib .add .i64 i 1 = i' := by
      have hlt : i < (ys.length : Int) := hlt
      have := hi.i0
      rw [s_add, w64 (by omega) (by omega), hi']
     cbv
     subst hE
     and_intros
     all_goals first
      | exact Sm.of hrow
      | exact congrArg (fun x => AV.v (Value.int .i64 x)) hii
      | exact congrArg (fun x => AV.v (Value.int .u64 x)) hcc
      | exact congrArg (AV.s 4) (hlr _ rfl)
      | (simp; done)
   ·have he : i = ys.length := by
     subst hE
     have h : Env.std.ic .lss i (Env.std.len Int ys) = false := h2
     have h : ¬ i < (ys.length : Int) := by simpa using h
     have := hi.i1
     omega
    have q := hi.last hy hx he hl
    have hfit : Env.std.fits (l + 1) 4 := by rw [s_fits]; have := hi.l; have := hi.i0; omega
    cbv
    refine ⟨by subst hE; exact hfit, ?_⟩
    cbv
    have hc := trim_con (o ++ [c]) (by have he : i = (ys.length : Int) := he; rw [List.length_append, List.length_singleton]; have := hi.len; omega)
    have hrow : ∀ n : Int, n = l + 1 -> Env.std.tk Int (Env.std.app Int (Env.std.tk Int o l) [Env.std.cv .u32 c]) n = o ++ [c] := by
     intro n hn
     have h1 := hi.l; have h2 := hi.len; have h3 := hi.i0; have h4 := hi.c0; have h5 := hi.c1
     rw [s_tk, s_app, s_tk, s_cv, wu32 (by omega) (by omega), List.take_of_length_le (show o.length <= l.toNat by omega), List.take_of_length_le (by rw [List.length_append, List.length_singleton]; omega)]
    obtain ⟨n, hn⟩ : ∃ n, n = tlen (o ++ [c]) := ⟨_, rfl⟩
    rw [<- hn] at hc
    have hres : Env.std.tk Int (Env.std.app Int (Env.std.tk Int o l) [Env.std.cv .u32 c]) n = r := by
     have h1 := hi.l; have h2 := hi.len; have h3 := hi.i0; have h4 := hi.c0; have h5 := hi.c1
     rw [s_tk, s_app, s_tk, s_cv, wu32 (by omega) (by omega), List.take_of_length_le (show o.length <= l.toNat by omega), hn, Int.toNat_natCast, take_tlen q.1, q.2, hr]
     rw [Int.add_comm]
    refine CallTo.con hP hE hc ?_ ?_
    ·subst hE
     exact ⟨Sm.of (hrow _ rfl), trivial⟩
    ·cbv
     subst hE
     exact Sm.of hres
 ·have hl : ys.length <= xs.length := by
   subst hE
   have h : Env.std.ic .lss (Env.std.len Int xs) (Env.std.len Int ys) = false := h1
   simp at h
   omega
  cbv
  refine ⟨by subst hE; exact hmk xs ha, ?_⟩
  cbv
  refine LoopTo.by (ι := Int × Int × Int × List Int) (fun x => [(22, .v (.int .i64 x.1)), (6, .v (.int .u64 x.2.1)), (5, .s 2 x.2.2.1), (19, .any)]) (fun x => [(2, .row true 169 cU x.2.2.2)]) (fun x => PInv xs ys x.1 x.2.1 x.2.2.1 x.2.2.2) (fun x => (xs.length - x.1).toNat) (i0, i0, i0, b0) [] (PInv.zero hi0 hb0) ?_ ?_
  ·cbv
   subst hE
   and_intros
   all_goals first
    | exact Sm.of hb0.symm
    | (simp [hi0]; done)
  ·rintro ⟨i, c, l, o⟩ hi
   have hi : PInv xs ys i c l o := hi
   cbv
   refine ⟨fun h2 => ?_, fun h2 => ?_⟩
   ·have hlt : i < xs.length := by
     subst hE
     have h : Env.std.ic .lss i (Env.std.len Int xs) = true := h2
     simpa using h
    cbv
    refine ⟨by subst hE; exact ⟨hi.i0, hlt⟩, ?_⟩
    cbv
    refine ⟨fun h3 => ?_, fun h3 => ?_⟩
    ·have h3' : i < ys.length := by
      subst hE
      have h : Env.std.ic .lss i (Env.std.len Int ys) = true := h3
      simpa using h
     have q := hi.step hx hy hlt rfl
     have hfit : Env.std.fits (l + 1) 4 := by have hlt : i < (xs.length : Int) := hlt; rw [s_fits]; have := hi.l; have := hi.i0; omega
     cbv
     refine ⟨by subst hE; exact ⟨hi.i0, h3'⟩, ?_⟩
     cbv
     refine ⟨by subst hE; exact hfit, ?_⟩
     cbv
     refine ⟨by subst hE; simp, ?_⟩
     cbv
     obtain ⟨q1, q2, q3⟩ := q
     have e1 : Env.std.ib .add .u64 (Env.std.ib .add .u64 c (Env.std.cv .u64 (Env.std.get Int xs i 0))) (Env.std.cv .u64 (Env.std.get Int ys i 0)) = c + xs.getD i.toNat 0 + ys.getD i.toNat 0 := by
      have g1 := hx.get i.toNat
      have g2 := hy.get i.toNat
      have := hi.c0
      rw [s_add, s_add, s_cv, s_cv, s_get, s_get, wu64 (n := xs.getD i.toNat 0) (by omega) (by omega), wu64 (n := ys.getD i.toNat 0) (by omega) (by omega), wu64 (n := c + xs.getD i.toNat 0) (by omega) (by omega), wu64 (by omega) (by omega)]
     generalize c + xs.getD i.toNat 0 + ys.getD i.toNat 0 = s at q1 q2 q3 e1
     obtain ⟨i', hi'⟩ : ∃ j, j = i + 1 := ⟨_, rfl⟩
     obtain ⟨c', hc'⟩ : ∃ j, j = s / 4294967296 := ⟨_, rfl⟩
     obtain ⟨l', hl'⟩ : ∃ j, j = l + 1 := ⟨_, rfl⟩
     obtain ⟨o', ho'⟩ : ∃ j, j = o ++ [s % 4294967296] := ⟨_, rfl⟩
     rw [<- hi', <- hc', <- hl', <- ho'] at q3
     refine ⟨(i', c', l', o'), [0, 1, 4], q3, by have hlt : i < (xs.length : Int) := hlt; show ((xs.length : Int) - i').toNat < ((xs.length : Int) - i).toNat; omega, ?_⟩
     have hlr : ∀ a : List Int, a.length = 1 -> Env.std.ad l (Env.std.len Int a) = l' := by
      intro a ha
      rw [s_ad, s_len, ha, hl']; rfl
     have hrow : Env.std.app Int (Env.std.tk Int o l) [Env.std.cv .u32 (Env.std.ib .add .u64 (Env.std.ib .add .u64 c (Env.std.cv .u64 (Env.std.get Int xs i 0))) (Env.std.cv .u64 (Env.std.get Int ys i 0)))] = o' := by
      rw [e1, s_app, s_tk, List.take_of_length_le (by have := hi.len; have := hi.l; omega), s_cv, IntKind.wrap_u32, ho']
     have hcc : Env.std.ib .shr .u64 (Env.std.ib .add .u64 (Env.std.ib .add .u64 c (Env.std.cv .u64 (Env.std.get Int xs i 0))) (Env.std.cv .u64 (Env.std.get Int ys i 0))) 32 = c' := by
      rw [e1, s_shr, hc']
      exact Int.fdiv_eq_ediv_of_nonneg _ (by decide)
     have hii : Env.std.ib .add .i64 i 1 = i' := by
      have hlt : i < (xs.length : Int) := hlt
      have := hi.i0
      rw [s_add, w64 (by omega) (by omega), hi']
     cbv
     subst hE
     and_intros
     all_goals first
      | exact Sm.of hrow
      | exact congrArg (fun x => AV.v (Value.int .i64 x)) hii
      | exact congrArg (fun x => AV.v (Value.int .u64 x)) hcc
      | exact congrArg (AV.s 4) (hlr _ rfl)
      | (simp; done)
    ·have hy0 : ys.getD i.toNat 0 = 0 := by
      subst hE
      have h : Env.std.ic .lss i (Env.std.len Int ys) = false := h3
      have h : ¬ i < (ys.length : Int) := by simpa using h
      have := hi.i0
      rw [List.getD_eq_getElem?_getD, List.getElem?_eq_none (by omega)]; rfl
     have q := hi.step hx hy hlt rfl
     have hfit : Env.std.fits (l + 1) 4 := by have hlt : i < (xs.length : Int) := hlt; rw [s_fits]; have := hi.l; have := hi.i0; omega
     cbv
     refine ⟨by subst hE; exact hfit, ?_⟩
     cbv
     refine ⟨by subst hE; simp, ?_⟩
     cbv
     obtain ⟨q1, q2, q3⟩ := q
     have e1 : Env.std.ib .add .u64 c (Env.std.cv .u64 (Env.std.get Int xs i 0)) = c + xs.getD i.toNat 0 + ys.getD i.toNat 0 := by
      have g1 := hx.get i.toNat
      have g2 := hy.get i.toNat
      have := hi.c0
      rw [s_add, s_cv, s_get, wu64 (n := xs.getD i.toNat 0) (by omega) (by omega), wu64 (by omega) (by omega), hy0, Int.add_zero]
     generalize c + xs.getD i.toNat 0 + ys.getD i.toNat 0 = s at q1 q2 q3 e1
     obtain ⟨i', hi'⟩ : ∃ j, j = i + 1 := ⟨_, rfl⟩
     obtain ⟨c', hc'⟩ : ∃ j, j = s / 4294967296 := ⟨_, rfl⟩
     obtain ⟨l', hl'⟩ : ∃ j, j = l + 1 := ⟨_, rfl⟩
     obtain ⟨o', ho'⟩ : ∃ j, j = o ++ [s % 4294967296] := ⟨_, rfl⟩
     rw [<- hi', <- hc', <- hl', <- ho'] at q3
     refine ⟨(i', c', l', o'), [0, 1, 4], q3, by have hlt : i < (xs.length : Int) := hlt; show ((xs.length : Int) - i').toNat < ((xs.length : Int) - i).toNat; omega, ?_⟩
     have hlr : ∀ a : List Int, a.length = 1 -> Env.std.ad l (Env.std.len Int a) = l' := by
      intro a ha
      rw [s_ad, s_len, ha, hl']; rfl
     have hrow : Env.std.app Int (Env.std.tk Int o l) [Env.std.cv .u32 (Env.std.ib .add .u64 c (Env.std.cv .u64 (Env.std.get Int xs i 0)))] = o' := by
      rw [e1, s_app, s_tk, List.take_of_length_le (by have := hi.len; have := hi.l; omega), s_cv, IntKind.wrap_u32, ho']
     have hcc : Env.std.ib .shr .u64 (Env.std.ib .add .u64 c (Env.std.cv .u64 (Env.std.get Int xs i 0))) 32 = c' := by
      rw [e1, s_shr, hc']
      exact Int.fdiv_eq_ediv_of_nonneg _ (by decide)
     have hii : Env.std.ib .add .i64 i 1 = i' := by
      have hlt : i < (xs.length : Int) := hlt
      have := hi.i0
      rw [s_add, w64 (by omega) (by omega), hi']
     cbv
     subst hE
     and_intros
     all_goals first
      | exact Sm.of hrow
      | exact congrArg (fun x => AV.v (Value.int .i64 x)) hii
      | exact congrArg (fun x => AV.v (Value.int .u64 x)) hcc
      | exact congrArg (AV.s 4) (hlr _ rfl)
      | (simp; done)
   ·have he : i = xs.length := by
     subst hE
     have h : Env.std.ic .lss i (Env.std.len Int xs) = false := h2
     have h : ¬ i < (xs.length : Int) := by simpa using h
     have := hi.i1
     omega
    have q := hi.last hx hy he hl
    have hfit : Env.std.fits (l + 1) 4 := by rw [s_fits]; have := hi.l; have := hi.i0; omega
    cbv
    refine ⟨by subst hE; exact hfit, ?_⟩
    cbv
    have hc := trim_con (o ++ [c]) (by have he : i = (xs.length : Int) := he; rw [List.length_append, List.length_singleton]; have := hi.len; omega)
    have hrow : ∀ n : Int, n = l + 1 -> Env.std.tk Int (Env.std.app Int (Env.std.tk Int o l) [Env.std.cv .u32 c]) n = o ++ [c] := by
     intro n hn
     have h1 := hi.l; have h2 := hi.len; have h3 := hi.i0; have h4 := hi.c0; have h5 := hi.c1
     rw [s_tk, s_app, s_tk, s_cv, wu32 (by omega) (by omega), List.take_of_length_le (show o.length <= l.toNat by omega), List.take_of_length_le (by rw [List.length_append, List.length_singleton]; omega)]
    obtain ⟨n, hn⟩ : ∃ n, n = tlen (o ++ [c]) := ⟨_, rfl⟩
    rw [<- hn] at hc
    have hres : Env.std.tk Int (Env.std.app Int (Env.std.tk Int o l) [Env.std.cv .u32 c]) n = r := by
     have h1 := hi.l; have h2 := hi.len; have h3 := hi.i0; have h4 := hi.c0; have h5 := hi.c1
     rw [s_tk, s_app, s_tk, s_cv, wu32 (by omega) (by omega), List.take_of_length_le (show o.length <= l.toNat by omega), hn, Int.toNat_natCast, take_tlen q.1, q.2, hr]
    refine CallTo.con hP hE hc ?_ ?_
    ·subst hE
     exact ⟨Sm.of (hrow _ rfl), trivial⟩
    ·cbv
     subst hE
     exact Sm.of hres
theorem plus_con (a b : Nat) (ha : (lb a).length <= 137438953472) (hb : (lb b).length <= 137438953472) : Con Tryz.prog 188 [.ro cU (lb a), .ro cU (lb b)] (.own 169 cU (lb (a + b))) :=
 plus_core _ _ _ (lb_ok a) (lb_ok b) ha hb (by rw [val_lb, val_lb]; rfl)
end Go.Proofs.YtfdealobplcboaaGreat.Sx

set_option linter.unusedVariables false
set_option linter.unusedSimpArgs false
set_option maxRecDepth 100000
set_option maxHeartbeats 4000000
namespace Go.Proofs.YtfdealobplcboaaGreat.Sx
theorem tup2 {k k' : IntKind} {a a' b b' : Int} (h : a = a') (h' : b = b') : Value.tuple #[.int k a, .int k' b] = Value.tuple #[.int k a', .int k' b'] := by rw [h, h']
theorem msb_shr (z : BitVec 32) : z.toNat / 2147483648 = if z.msb then 1 else 0 := by
 have h := z.isLt
 rw [BitVec.msb_eq_decide]
 by_cases h2 : 2 ^ (32 - 1) <= z.toNat
 ·simp only [h2, decide_true, if_true]; omega
 ·simp only [h2, decide_false]; simp; omega
theorem msb_of {x : Int} (h0 : 0 <= x) (h1 : x < 4294967296) : (BitVec.ofInt 32 x).msb = decide (2147483648 <= x) := by
 rw [BitVec.msb_eq_decide, BitVec.toNat_ofInt]
 by_cases h : 2147483648 <= x
 ·simp only [h, decide_true, decide_eq_true_eq]; omega
 ·simp only [h, decide_false, decide_eq_false_iff_not]; omega
theorem not32 {x : Int} (h0 : 0 <= x) (h1 : x < 4294967296) : BitVec.ofInt 32 (Env.std.un .xor .u32 x) = ~~~ BitVec.ofInt 32 x := by
 show BitVec.ofInt 32 (IntKind.u32.wrap ((BitVec.ofInt 32 4294967295 ^^^ BitVec.ofInt 32 x).toNat : Int)) = _
 have hb := (BitVec.ofInt 32 4294967295 ^^^ BitVec.ofInt 32 x).isLt
 rw [wu32 (by omega) (by omega), BitVec.ofInt_natCast, BitVec.ofNat_toNat, BitVec.setWidth_eq]
 have : BitVec.ofInt 32 4294967295 = BitVec.allOnes 32 := by decide
 rw [this, BitVec.allOnes_xor]
theorem bin32 {op : BinOp} {f : BitVec 32 -> BitVec 32 -> BitVec 32} (h : ∀ a b, Env.std.ib op .u32 a b = IntKind.u32.wrap ((f (BitVec.ofInt 32 a) (BitVec.ofInt 32 b)).toNat : Int)) (a b : Int) : BitVec.ofInt 32 (Env.std.ib op .u32 a b) = f (BitVec.ofInt 32 a) (BitVec.ofInt 32 b) /\ Env.std.ib op .u32 a b = ((f (BitVec.ofInt 32 a) (BitVec.ofInt 32 b)).toNat : Int) := by
 have hb := (f (BitVec.ofInt 32 a) (BitVec.ofInt 32 b)).isLt
 rw [h, wu32 (by omega) (by omega), BitVec.ofInt_natCast, BitVec.ofNat_toNat, BitVec.setWidth_eq]
 exact ⟨rfl, rfl⟩
theorem and32 (a b : Int) : BitVec.ofInt 32 (Env.std.ib .and .u32 a b) = BitVec.ofInt 32 a &&& BitVec.ofInt 32 b /\ Env.std.ib .and .u32 a b = ((BitVec.ofInt 32 a &&& BitVec.ofInt 32 b).toNat : Int) :=
 bin32 (op := .and) (f := fun x y => x &&& y) (fun _ _ => rfl) a b
theorem or32b (a b : Int) : BitVec.ofInt 32 (Env.std.ib .or .u32 a b) = BitVec.ofInt 32 a ||| BitVec.ofInt 32 b /\ Env.std.ib .or .u32 a b = ((BitVec.ofInt 32 a ||| BitVec.ofInt 32 b).toNat : Int) :=
 bin32 (op := .or) (f := fun x y => x ||| y) (fun _ _ => rfl) a b
theorem xor32 (a b : Int) : BitVec.ofInt 32 (Env.std.ib .xor .u32 a b) = BitVec.ofInt 32 a ^^^ BitVec.ofInt 32 b /\ Env.std.ib .xor .u32 a b = ((BitVec.ofInt 32 a ^^^ BitVec.ofInt 32 b).toNat : Int) :=
 bin32 (op := .xor) (f := fun x y => x ^^^ y) (fun _ _ => rfl) a b
theorem borrow32 {x y d : Int} (x0 : 0 <= x) (x1 : x < 4294967296) (y0 : 0 <= y) (y1 : y < 4294967296) (d0 : 0 <= d) (d1 : d < 4294967296) :
  Env.std.ib .shr .u32 (Env.std.ib .or .u32 (Env.std.ib .and .u32 (Env.std.un .xor .u32 x) y) (Env.std.ib .and .u32 (Env.std.un .xor .u32 (Env.std.ib .xor .u32 x y)) d)) 31 = if (!decide (2147483648 <= x) && decide (2147483648 <= y)) || (!(decide (2147483648 <= x) ^^ decide (2147483648 <= y)) && decide (2147483648 <= d)) then 1 else 0 := by
 have hx : 0 <= Env.std.ib .xor .u32 x y /\ Env.std.ib .xor .u32 x y < 4294967296 := by
  rw [(xor32 x y).2]
  have := (BitVec.ofInt 32 x ^^^ BitVec.ofInt 32 y).isLt
  omega
 rw [(or32b _ _).2, s_shr]
 have : ∀ n : Nat, (n : Int).fdiv (2 ^ (min (31 : Int).toNat IntKind.u32.bits)) = ((n / 2147483648 : Nat) : Int) := fun n => Int.fdiv_eq_ediv_of_nonneg _ (by decide)
 rw [this, msb_shr, BitVec.msb_or, (and32 _ _).1, (and32 _ _).1, BitVec.msb_and, BitVec.msb_and, not32 x0 x1, not32 hx.1 hx.2, (xor32 x y).1, BitVec.msb_not, BitVec.msb_not, BitVec.msb_xor, msb_of x0 x1, msb_of y0 y1, msb_of d0 d1]
 simp
 split <;> rfl
theorem sub32_con (x y b d b' : Int) (x0 : 0 <= x) (x1 : x < 4294967296) (y0 : 0 <= y) (y1 : y < 4294967296) (b0 : 0 <= b) (b1 : b <= 1) (hd : d = (x - y - b) % 4294967296) (hb : b' = - ((x - y - b) / 4294967296)) : Con Tryz.prog 215 [.v (.int .u32 x), .v (.int .u32 y), .v (.int .u32 b)] (.v (.tuple #[.int .u32 d, .int .u32 b'])) := by
 refine Con.of ttOk mixed Tryz.func215 {} .nil 0 (by kernel_rfl) (fun P' E hP hE => ?_)
 have h1 : Env.std.ib .sub .u32 (Env.std.ib .sub .u32 x y) b = d := by
  rw [s_sub, s_sub, IntKind.wrap_u32, IntKind.wrap_u32]; omega
 have h2 : Env.std.ib .shr .u32 (Env.std.ib .or .u32 (Env.std.ib .and .u32 (Env.std.un .xor .u32 x) y) (Env.std.ib .and .u32 (Env.std.un .xor .u32 (Env.std.ib .xor .u32 x y)) (Env.std.ib .sub .u32 (Env.std.ib .sub .u32 x y) b))) 31 = b' := by
  rw [h1, borrow32 x0 x1 y0 y1 (by omega) (by omega), hb]
  by_cases c1 : 2147483648 <= x <;> by_cases c2 : 2147483648 <= y <;> by_cases c3 : 2147483648 <= d <;> simp [c1, c2, c3] <;> omega
 cbv
 refine ⟨by subst hE; simp, ?_⟩
 cbv
 subst hE
 exact tup2 h1 h2
theorem add32_con (x y b d b' : Int) (x0 : 0 <= x) (x1 : x < 4294967296) (y0 : 0 <= y) (y1 : y < 4294967296) (b0 : 0 <= b) (b1 : b <= 1) (hd : d = (x + y + b) % 4294967296) (hb : b' = (x + y + b) / 4294967296) : Con Tryz.prog 256 [.v (.int .u32 x), .v (.int .u32 y), .v (.int .u32 b)] (.v (.tuple #[.int .u32 d, .int .u32 b'])) := by
 refine Con.of ttOk mixed Tryz.func256 {} .nil 0 (by kernel_rfl) (fun P' E hP hE => ?_)
 have h0 : Env.std.ib .add .u64 (Env.std.ib .add .u64 (Env.std.cv .u64 x) (Env.std.cv .u64 y)) (Env.std.cv .u64 b) = x + y + b := by
  rw [s_add, s_add, s_cv, s_cv, s_cv, wu64 (n := x) (by omega) (by omega), wu64 (n := y) (by omega) (by omega), wu64 (n := b) (by omega) (by omega), wu64 (n := x + y) (by omega) (by omega), wu64 (by omega) (by omega)]
 have h1 : Env.std.cv .u32 (Env.std.ib .add .u64 (Env.std.ib .add .u64 (Env.std.cv .u64 x) (Env.std.cv .u64 y)) (Env.std.cv .u64 b)) = d := by
  rw [h0, s_cv, IntKind.wrap_u32, hd]
 have h2 : Env.std.cv .u32 (Env.std.ib .shr .u64 (Env.std.ib .add .u64 (Env.std.ib .add .u64 (Env.std.cv .u64 x) (Env.std.cv .u64 y)) (Env.std.cv .u64 b)) 32) = b' := by
  have h : (x + y + b).fdiv (2 ^ (min (32 : Int).toNat IntKind.u64.bits)) = (x + y + b) / 4294967296 := Int.fdiv_eq_ediv_of_nonneg _ (by decide)
  rw [h0, s_cv, s_shr, h, wu32 (by omega) (by omega), hb]
 cbv
 refine ⟨by subst hE; simp, ?_⟩
 cbv
 subst hE
 exact tup2 h1 h2
theorem or64 {a b : Int} (k : Nat) {c : Nat} (h0 : 0 <= a) (h1 : a < ((2 ^ k : Nat) : Int)) (hb : b = ((2 ^ k * c : Nat) : Int)) (h2 : a + b < 18446744073709551616) : Env.std.ib .or .u64 a b = a + b /\ Env.std.ib .or .u64 b a = b + a := by
 have hb0 : 0 <= b := by omega
 have e1 : (BitVec.ofInt 64 a).toNat = a.toNat := by rw [BitVec.toNat_ofInt]; omega
 have e2 : (BitVec.ofInt 64 b).toNat = b.toNat := by rw [BitVec.toNat_ofInt]; omega
 have hk : a.toNat < 2 ^ k := by omega
 have hbn : b.toNat = 2 ^ k * c := by omega
 have e3 : (BitVec.ofInt 64 b ||| BitVec.ofInt 64 a).toNat = b.toNat + a.toNat := by
  rw [BitVec.toNat_or, e1, e2, hbn, <- Nat.two_pow_add_eq_or_of_lt hk]
 have e4 : (BitVec.ofInt 64 a ||| BitVec.ofInt 64 b).toNat = a.toNat + b.toNat := by
  rw [BitVec.toNat_or, e1, e2, hbn, Nat.or_comm, <- Nat.two_pow_add_eq_or_of_lt hk, Nat.add_comm]
 constructor
 ·show IntKind.u64.wrap ((BitVec.ofInt 64 a ||| BitVec.ofInt 64 b).toNat : Int) = a + b
  rw [e4, wu64 (by omega) (by omega)]
  omega
 ·show IntKind.u64.wrap ((BitVec.ofInt 64 b ||| BitVec.ofInt 64 a).toNat : Int) = b + a
  rw [e3, wu64 (by omega) (by omega)]
  omega
/-- Two words side by side. -/
theorem hilo {x y : Int} (x0 : 0 <= x) (x1 : x < 4294967296) (y0 : 0 <= y) (y1 : y < 4294967296) : Env.std.ib .or .u64 (Env.std.ib .shl .u64 (Env.std.cv .u64 x) 32) (Env.std.cv .u64 y) = x * 4294967296 + y := by
 have h : x * 2 ^ (min (32 : Int).toNat IntKind.u64.bits) = x * 4294967296 := rfl
 rw [s_cv, s_cv, wu64 (n := x) (by omega) (by omega), wu64 (n := y) (by omega) (by omega), s_shl, h, wu64 (by omega) (by omega)]
 have h2 : ((2 ^ 32 : Nat) : Int) = 4294967296 := by decide
 exact (or64 (a := y) (b := x * 4294967296) 32 (c := x.toNat) y0 (by rw [h2]; exact y1) (by rw [Int.natCast_mul, h2]; omega) (by omega)).2
theorem div32_con (x y d q r : Int) (x0 : 0 <= x) (x1 : x < d) (y0 : 0 <= y) (y1 : y < 4294967296) (d1 : d < 4294967296) (hq : q = (x * 4294967296 + y) / d) (hr : r = (x * 4294967296 + y) % d) : Con Tryz.prog 254 [.v (.int .u32 x), .v (.int .u32 y), .v (.int .u32 d)] (.v (.tuple #[.int .u32 q, .int .u32 r])) := by
 refine Con.of ttOk mixed Tryz.func254 { ord := [(4, List.range 12)] } .nil 0 (by kernel_rfl) (fun P' E hP hE => ?_)
 have h0 := hilo x0 (by omega : x < 4294967296) y0 y1
 have hd : Env.std.cv .u64 d = d := by rw [s_cv, wu64 (by omega) (by omega)]
 have hp : 0 <= x * 4294967296 + y := by omega
 have hlt : (x * 4294967296 + y) / d < 4294967296 := Int.ediv_lt_of_lt_mul (by omega) (by
  have : x + 1 <= d := by omega
  have : (x + 1) * 4294967296 <= d * 4294967296 := Int.mul_le_mul_of_nonneg_right this (by decide)
  rw [Int.mul_comm 4294967296]
  omega)
 have hge : 0 <= (x * 4294967296 + y) / d := Int.ediv_nonneg hp (by omega)
 have hm0 := Int.emod_nonneg (x * 4294967296 + y) (by omega : d ≠ 0)
 have hm1 := Int.emod_lt_of_pos (x * 4294967296 + y) (by omega : 0 < d)
 have h1 : Env.std.cv .u32 (Env.std.ib .quo .u64 (Env.std.ib .or .u64 (Env.std.ib .shl .u64 (Env.std.cv .u64 x) 32) (Env.std.cv .u64 y)) (Env.std.cv .u64 d)) = q := by
  rw [h0, hd, s_quo, s_cv, Int.tdiv_eq_ediv_of_nonneg hp, wu64 (by omega) (by omega), wu32 hge hlt, hq]
 have h2 : Env.std.cv .u32 (Env.std.ib .rem .u64 (Env.std.ib .or .u64 (Env.std.ib .shl .u64 (Env.std.cv .u64 x) 32) (Env.std.cv .u64 y)) (Env.std.cv .u64 d)) = r := by
  rw [h0, hd, s_rem, s_cv, Int.tmod_eq_emod_of_nonneg hp, wu32 hm0 (by omega), hr]
 cbv
 refine ⟨fun h => ?_, fun h => ?_⟩
 ·cbv
  refine ⟨fun h' => ?_, fun h' => ?_⟩
  ·exfalso
   subst hE
   have h : Env.std.ic .leq d x = true := h'
   simp at h
   omega
  ·cbv
   refine ⟨by subst hE; simp, ?_⟩
   cbv
   refine ⟨by subst hE; show Env.std.nz .quo (Env.std.cv .u64 d); rw [hd]; simp; omega, ?_⟩
   cbv
   refine ⟨by subst hE; show Env.std.nz .rem (Env.std.cv .u64 d); rw [hd]; simp; omega, ?_⟩
   cbv
   subst hE
   exact tup2 h1 h2
 ·exfalso
  subst hE
  have h : Env.std.ic .neq d 0 = false := h
  simp at h
  omega
/-- How many digits of two a number has. -/
def IsLen (n x : Nat) : Prop := x < 2 ^ n /\ (n = 0 \/ 2 ^ (n - 1) <= x)
theorem IsLen.uni {n m x : Nat} (h : IsLen n x) (h' : IsLen m x) : n = m := by
 obtain ⟨h1, h2⟩ := h
 obtain ⟨h3, h4⟩ := h'
 rcases Nat.lt_trichotomy n m with c | c | c
 ·have : 2 ^ n <= 2 ^ (m - 1) := Nat.pow_le_pow_right (by decide) (by omega)
  omega
 ·exact c
 ·have : 2 ^ m <= 2 ^ (n - 1) := Nat.pow_le_pow_right (by decide) (by omega)
  omega
theorem IsLen.up {n x : Nat} (k : Nat) (h : IsLen n (x / 2 ^ k)) (hx : 2 ^ k <= x) : IsLen (k + n) x := by
 have hk : 0 < 2 ^ k := Nat.pow_pos (by decide)
 obtain ⟨h1, h2⟩ := h
 have h3 : x < 2 ^ (k + n) := by
  rw [Nat.pow_add, Nat.mul_comm]
  exact (Nat.div_lt_iff_lt_mul hk).1 h1
 refine ⟨h3, Or.inr ?_⟩
 rcases h2 with h2 | h2
 ·rw [h2, Nat.add_zero] at h3
  omega
 ·by_cases h0 : n = 0
  ·rw [h0, Nat.add_zero] at h3
   omega
  ·have : k + n - 1 = n - 1 + k := by omega
   rw [this, Nat.pow_add]
   exact (Nat.le_div_iff_mul_le hk).1 h2
def lenTab : ByteArray := ⟨(([0, 1] ++ List.replicate 2 2 ++ List.replicate 4 3 ++ List.replicate 8 4 ++ List.replicate 16 5 ++ List.replicate 32 6 ++ List.replicate 64 7 ++ List.replicate 128 8 : List UInt8)).toArray⟩
instance (n x : Nat) : Decidable (IsLen n x) := inferInstanceAs (Decidable (_ /\ _))
theorem lenTab_at : ∀ b : Nat, b < 256 -> IsLen ((lenTab[b]?).getD 0).toNat b := by decide +kernel
theorem lenTab_le : ∀ b : Nat, b < 256 -> ((lenTab[b]?).getD 0).toNat <= 8 := by decide +kernel
theorem ends {Y : Int} {y c n : Nat} (hY : Y = y) (hy : y < 256) (hc : c <= 24) (h : ∀ m, IsLen m y -> IsLen (c + m) n) {k : Nat} (hk : IsLen k n) : Env.std.inb (Env.std.cv .u8 Y) (Env.std.sz lenTab) /\ Env.std.ib .add .i64 c (Env.std.cv .i64 (Env.std.sa lenTab (Env.std.cv .u8 Y))) = k := by
 have h1 : Env.std.cv .u8 Y = y := by rw [s_cv, hY, wu8 (by omega) (by omega)]
 have h2 : lenTab.size = 256 := by decide +kernel
 have h3 := lenTab_le y hy
 have h4 := (h _ (lenTab_at y hy)).uni hk
 refine ⟨?_, ?_⟩
 ·rw [h1, s_sz, h2, s_inb]; omega
 ·rw [h1, s_sa, Int.toNat_natCast, s_cv, w64 (by omega) (by omega), s_add, w64 (by omega) (by omega), <- h4]; rfl
theorem shr32n (x : Int) (k : Nat) (hk : k <= 32) (h0 : 0 <= x) : Env.std.ib .shr .u32 x (k : Int) = ((x.toNat / 2 ^ k : Nat) : Int) := by
 have h : (x.toNat : Int) = x := by omega
 have : min ((k : Int).toNat) IntKind.u32.bits = k := by show min ((k : Int).toNat) 32 = k; omega
 rw [s_shr, this, Int.natCast_ediv, h]
 have h2 : ((2 ^ k : Nat) : Int) = 2 ^ k := by simp
 rw [h2]
 exact Int.fdiv_eq_ediv_of_nonneg _ (Int.le_of_lt (Int.pow_pos (by decide)))
theorem len32_con (x : Int) (n : Nat) (h0 : 0 <= x) (hx : x < 4294967296) (h : IsLen n x.toNat) : Con Tryz.prog 233 [.v (.int .u32 x)] (.v (.int .i64 n)) := by
 refine Con.of ttOk mixed Tryz.func233 {} .nil 0 (by kernel_rfl) (fun P' E hP hE => ?_)
 have e16 : Env.std.ib .shr .u32 x 16 = ((x.toNat / 65536 : Nat) : Int) := shr32n x 16 (by decide) h0
 cbv
 refine ⟨fun h1 => ?_, fun h1 => ?_⟩
 ·have h1 : 65536 <= x := by
   subst hE
   have h : Env.std.ic .geq x 65536 = true := h1
   simpa using h
  cbv
  refine ⟨by subst hE; simp, ?_⟩
  cbv
  refine ⟨fun h2 => ?_, fun h2 => ?_⟩
  ·have h2 : 16777216 <= x := by
    subst hE
    have h : Env.std.ic .geq (Env.std.ib .shr .u32 x 16) 256 = true := h2
    rw [e16] at h
    simp at h
    omega
   have e8 : Env.std.ib .shr .u32 (Env.std.ib .shr .u32 x 16) 8 = ((x.toNat / 16777216 : Nat) : Int) := by
    have h : Env.std.ib .shr .u32 ((x.toNat / 65536 : Nat) : Int) 8 = (((((x.toNat / 65536 : Nat) : Int)).toNat / 2 ^ 8 : Nat) : Int) := shr32n _ 8 (by decide) (by omega)
    rw [e16, h]; omega
   have q := ends e8 (by omega) (by decide : 24 <= 24) (fun m hm => IsLen.up (x := x.toNat) 24 hm (by omega)) h
   cbv
   refine ⟨by subst hE; simp, ?_⟩
   cbv
   refine ⟨by subst hE; exact q.1, ?_⟩
   cbv
   subst hE
   exact congrArg (Value.int .i64) q.2
  ·have h2 : x < 16777216 := by
    subst hE
    have h : Env.std.ic .geq (Env.std.ib .shr .u32 x 16) 256 = false := h2
    rw [e16] at h
    simp at h
    omega
   have q := ends e16 (by omega) (by decide : 16 <= 24) (fun m hm => IsLen.up (x := x.toNat) 16 hm (by omega)) h
   cbv
   refine ⟨by subst hE; exact q.1, ?_⟩
   cbv
   subst hE
   exact congrArg (Value.int .i64) q.2
 ·have h1 : x < 65536 := by
   subst hE
   have h : Env.std.ic .geq x 65536 = false := h1
   simpa using h
  cbv
  refine ⟨fun h2 => ?_, fun h2 => ?_⟩
  ·have h2 : 256 <= x := by
    subst hE
    have h : Env.std.ic .geq x 256 = true := h2
    simpa using h
   have e8 : Env.std.ib .shr .u32 x 8 = ((x.toNat / 256 : Nat) : Int) := shr32n x 8 (by decide) h0
   have q := ends e8 (by omega) (by decide : 8 <= 24) (fun m hm => IsLen.up (x := x.toNat) 8 hm (by omega)) h
   cbv
   refine ⟨by subst hE; simp, ?_⟩
   cbv
   refine ⟨by subst hE; exact q.1, ?_⟩
   cbv
   subst hE
   exact congrArg (Value.int .i64) q.2
  ·have h2 : x < 256 := by
    subst hE
    have h : Env.std.ic .geq x 256 = false := h2
    simpa using h
   have q := ends (Y := x) (y := x.toNat) (by omega) (by omega) (by decide : 0 <= 24) (fun m hm => by rw [Nat.zero_add]; exact hm) h
   cbv
   refine ⟨by subst hE; exact q.1, ?_⟩
   cbv
   subst hE
   exact congrArg (Value.int .i64) q.2
theorem lz32_con (x : Int) (n : Nat) (h0 : 0 <= x) (hx : x < 4294967296) (h : IsLen n x.toNat) (hn : n <= 32) : Con Tryz.prog 241 [.v (.int .u32 x)] (.v (.int .i64 (32 - n))) := by
 refine Con.of ttOk mixed Tryz.func241 {} .nil 0 (by kernel_rfl) (fun P' E hP hE => ?_)
 have hc := len32_con x n h0 hx h
 obtain ⟨u, hu⟩ : ∃ u : Int, u = n := ⟨_, rfl⟩
 rw [<- hu] at hc ⊢
 obtain ⟨v, hv⟩ : ∃ v : Int, v = 32 - u := ⟨_, rfl⟩
 rw [<- hv]
 have h1 : Env.std.ib .sub .i64 32 u = v := by
  rw [s_sub, w64 (by omega) (by omega), hv]
 cbv
 refine CallTo.con hP hE hc (by cbv <;> simp) ?_
 cbv
 subst hE
 exact congrArg (Value.int .i64) h1
end Go.Proofs.YtfdealobplcboaaGreat.Sx

set_option linter.unusedVariables false
set_option linter.unusedSimpArgs false
set_option maxHeartbeats 4000000
namespace Go.Proofs.YtfdealobplcboaaGreat.Sx
theorem getD_ge {xs : List Int} {i : Nat} (h : xs.length <= i) : xs.getD i 0 = 0 := by
 rw [List.getD_eq_getElem?_getD, List.getElem?_eq_none h]; rfl
theorem getD_set {xs : List Int} {i j : Nat} {v : Int} (h : i < xs.length) : (xs.set i v).getD j 0 = if i = j then v else xs.getD j 0 := by
 simp only [List.getD_eq_getElem?_getD, List.getElem?_set]
 by_cases c : i = j
 ·rw [if_pos c, if_pos c, if_pos h]; rfl
 ·rw [if_neg c, if_neg c]
structure MInv (X Y : List Int) (i b : Int) (o : List Int) : Prop where
 i0 : 0 <= i
 i1 : i <= X.length
 len : o.length = X.length
 ok : Ok32 o
 b0 : 0 <= b
 b1 : b <= 1
 z : ∀ j, i.toNat <= j -> o.getD j 0 = 0
 v : val o = val (X.take i.toNat) - val (Y.take i.toNat) + b * 4294967296 ^ i.toNat
theorem rep_getD (n j : Nat) : (List.replicate n (0 : Int)).getD j 0 = 0 := by
 simp only [List.getD_eq_getElem?_getD, List.getElem?_replicate]
 split <;> rfl
theorem MInv.zero {X Y : List Int} {i : Int} {o : List Int} (hi : i = 0) (ho : o = List.replicate X.length 0) : MInv X Y i i o := by
 subst hi; subst ho
 exact ⟨by omega, by omega, by simp, .rep _, by omega, by omega, fun j _ => rep_getD _ _, by rw [val_rep]; simp [val]⟩
theorem MInv.step {X Y : List Int} (hX : Ok32 X) (hY : Ok32 Y) {i b d b' : Int} {o : List Int} (h : MInv X Y i b o) (hi : i < X.length) (hd : d = (X.getD i.toNat 0 - Y.getD i.toNat 0 - b) % 4294967296) (hb : b' = - ((X.getD i.toNat 0 - Y.getD i.toNat 0 - b) / 4294967296)) :
  MInv X Y (i + 1) b' (o.set i.toNat d) := by
 have hx := hX.get i.toNat
 have hy := hY.get i.toNat
 have h0 := h.b0
 have h1 := h.b1
 have hi0 := h.i0
 have e : (i + 1).toNat = i.toNat + 1 := by omega
 have hlt : i.toNat < o.length := by rw [h.len]; omega
 refine ⟨by omega, by omega, by rw [List.length_set, h.len], h.ok.set (by omega) (by omega) _, by omega, by omega, fun j hj => ?_, ?_⟩
 ·rw [getD_set hlt, if_neg (by omega)]
  exact h.z j (by omega)
 ·have hv := h.v
  rw [val_set _ _ _ hlt, h.z _ (Nat.le_refl _), e, val_take_succ, val_take_succ, Int.pow_succ]
  have hs2 : d = X.getD i.toNat 0 - Y.getD i.toNat 0 - b + 4294967296 * b' := by omega
  generalize X.getD i.toNat 0 = x at *
  generalize Y.getD i.toNat 0 = y at *
  generalize (4294967296 : Int) ^ i.toNat = p at *
  rw [hs2, hv]
  grind
theorem MInv.last {X Y : List Int} {i b : Int} {o : List Int} (h : MInv X Y i b o) (hi : i = X.length) (hl : Y.length <= X.length) (hv : val Y <= val X) : val o = val X - val Y := by
 have hb0 := h.b0
 have hb1 := h.b1
 have hlt := val_lt h.ok
 have hvv := h.v
 rw [List.take_of_length_le (by omega), List.take_of_length_le (by omega)] at hvv
 have hl2 : o.length = i.toNat := by rw [h.len]; omega
 rw [hl2] at hlt
 have hp := pow_pos32 i.toNat
 generalize (4294967296 : Int) ^ i.toNat = p at *
 have hbb : b = 0 \/ b = 1 := by omega
 rcases hbb with c | c
 ·rw [c] at hvv; omega
 ·rw [c] at hvv; omega
end Go.Proofs.YtfdealobplcboaaGreat.Sx

set_option linter.unusedVariables false
set_option linter.unusedSimpArgs false
set_option maxRecDepth 100000
set_option maxHeartbeats 4000000
namespace Go.Proofs.YtfdealobplcboaaGreat.Sx
theorem minus_core (xs ys r : List Int) (hx : Ok32 xs) (hy : Ok32 ys) (ha : xs.length <= 137438953472) (hl : ys.length <= xs.length) (hv : val ys <= val xs) (hr : r = lb (val xs - val ys).toNat) : Con Tryz.prog 189 [.ro cU xs, .ro cU ys] (.own 169 cU r) := by
 refine Con.of ttOk mixed Tryz.func189 {} .nil 0 (by kernel_rfl) (fun P' E hP hE => ?_)
 have hmk : ∀ X : List Int, X.length <= 137438953472 -> Env.std.rng 0 (Env.std.len Int X) (Env.std.len Int X) /\ Env.std.fits (Env.std.len Int X) 4 := by
  intro X h
  rw [s_len, s_rng, s_fits]; omega
 obtain ⟨i0, hi0⟩ : ∃ i : Int, i = 0 := ⟨_, rfl⟩
 obtain ⟨o0, ho0⟩ : ∃ b : List Int, b = List.replicate xs.length 0 := ⟨_, rfl⟩
 cbv
 refine ⟨by subst hE; exact hmk xs ha, ?_⟩
 cbv
 refine LoopTo.by (ι := Int × Int × List Int) (fun x => [(15, .v (.int .i64 x.1)), (6, .v (.int .u32 x.2.1))]) (fun x => [(2, .row true 169 cU x.2.2)]) (fun x => MInv xs ys x.1 x.2.1 x.2.2) (fun x => (xs.length - x.1).toNat) (i0, i0, o0) [] (MInv.zero hi0 ho0) ?_ ?_
 ·cbv
  subst hE
  and_intros
  all_goals first
   | exact Sm.of ho0.symm
   | exact congrArg (Value.int _) hi0.symm
   | (simp; done)
 ·rintro ⟨i, b, o⟩ hi
  have hi : MInv xs ys i b o := hi
  cbv
  refine ⟨fun h2 => ?_, fun h2 => ?_⟩
  ·have hlt : i < xs.length := by
    subst hE
    have h : Env.std.ic .lss i (Env.std.len Int xs) = true := h2
    simpa using h
   cbv
   refine ⟨by subst hE; exact ⟨hi.i0, hlt⟩, ?_⟩
   cbv
   refine ⟨fun h3 => ?_, fun h3 => ?_⟩
   ·have h3' : i < ys.length := by
     subst hE
     have h : Env.std.ic .lss i (Env.std.len Int ys) = true := h3
     simpa using h
    have c0 := hi.i0
    have g1 := hx.get i.toNat
    have g2 := hy.get i.toNat
    obtain ⟨d, hd⟩ : ∃ d, d = (xs.getD i.toNat 0 - ys.getD i.toNat 0 - b) % 4294967296 := ⟨_, rfl⟩
    obtain ⟨b', hb'⟩ : ∃ d, d = - ((xs.getD i.toNat 0 - ys.getD i.toNat 0 - b) / 4294967296) := ⟨_, rfl⟩
    have q := hi.step hx hy hlt hd hb'
    have hc := sub32_con _ _ _ _ _ g1.1 g1.2 g2.1 g2.2 hi.b0 hi.b1 hd hb'
    obtain ⟨i', hi'⟩ : ∃ j, j = i + 1 := ⟨_, rfl⟩
    obtain ⟨o', ho'⟩ : ∃ j, j = o.set i.toNat d := ⟨_, rfl⟩
    obtain ⟨x, hxx⟩ : ∃ j, j = xs.getD i.toNat 0 := ⟨_, rfl⟩
    obtain ⟨y, hyy⟩ : ∃ j, j = ys.getD i.toNat 0 := ⟨_, rfl⟩
    rw [<- hi', <- ho'] at q
    rw [<- hxx, <- hyy] at hc
    have hxi : Env.std.get Int xs i 0 = x := hxx.symm
    have hyi : Env.std.get Int ys i 0 = y := hyy.symm
    have hii : Env.std.ib .add .i64 i 1 = i' := by
     have hlt : i < (xs.length : Int) := hlt
     rw [s_add, w64 (by omega) (by omega), hi']
    have hrow : Env.std.set Int o i d = o' := ho'.symm
    clear hd hb' hxx hyy
    cbv
    refine ⟨by subst hE; exact ⟨c0, h3'⟩, ?_⟩
    cbv
    refine CallTo.con hP hE hc (by subst hE; refine ⟨?_, ?_, ?_, trivial⟩ <;> first | exact congrArg (Value.int .u32) hxi | exact congrArg (Value.int .u32) hyi | rfl | exact congrArg (Value.int .u32) hyz.symm) ?_
    cbv
    refine ⟨by subst hE; exact ⟨c0, hlt⟩, ?_⟩
    cbv
    refine ⟨(i', b', o'), [0, 1, 2], q, by have hlt : i < (xs.length : Int) := hlt; show ((xs.length : Int) - i').toNat < ((xs.length : Int) - i).toNat; omega, ?_⟩
    cbv
    subst hE
    and_intros
    all_goals first
     | exact Sm.of hrow
     | exact congrArg (fun x => AV.v (Value.int .i64 x)) hii
     | (simp; done)
     | (trace_state; fail)
   ·have hy0 : ys.getD i.toNat 0 = 0 := by
     subst hE
     have h : Env.std.ic .lss i (Env.std.len Int ys) = false := h3
     have h : ¬ i < (ys.length : Int) := by simpa using h
     exact getD_ge (by have := hi.i0; omega)
    have c0 := hi.i0
    have g1 := hx.get i.toNat
    have g2 := hy.get i.toNat
    obtain ⟨d, hd⟩ : ∃ d, d = (xs.getD i.toNat 0 - ys.getD i.toNat 0 - b) % 4294967296 := ⟨_, rfl⟩
    obtain ⟨b', hb'⟩ : ∃ d, d = - ((xs.getD i.toNat 0 - ys.getD i.toNat 0 - b) / 4294967296) := ⟨_, rfl⟩
    have q := hi.step hx hy hlt hd hb'
    have hc := sub32_con _ _ _ _ _ g1.1 g1.2 g2.1 g2.2 hi.b0 hi.b1 hd hb'
    obtain ⟨i', hi'⟩ : ∃ j, j = i + 1 := ⟨_, rfl⟩
    obtain ⟨o', ho'⟩ : ∃ j, j = o.set i.toNat d := ⟨_, rfl⟩
    obtain ⟨x, hxx⟩ : ∃ j, j = xs.getD i.toNat 0 := ⟨_, rfl⟩
    obtain ⟨y, hyy⟩ : ∃ j, j = ys.getD i.toNat 0 := ⟨_, rfl⟩
    rw [<- hi', <- ho'] at q
    rw [<- hxx, <- hyy] at hc
    have hxi : Env.std.get Int xs i 0 = x := hxx.symm
    have hyi : Env.std.get Int ys i 0 = y := hyy.symm
    have hii : Env.std.ib .add .i64 i 1 = i' := by
     have hlt : i < (xs.length : Int) := hlt
     rw [s_add, w64 (by omega) (by omega), hi']
    have hrow : Env.std.set Int o i d = o' := ho'.symm
    clear hd hb' hxx hyy
    cbv
    have hyz : y = 0 := by rw [<- hyi]; exact hy0
    refine CallTo.con hP hE hc (by subst hE; refine ⟨?_, ?_, ?_, trivial⟩ <;> first | exact congrArg (Value.int .u32) hxi | exact congrArg (Value.int .u32) hyi | rfl | exact congrArg (Value.int .u32) hyz.symm) ?_
    cbv
    refine ⟨by subst hE; exact ⟨c0, hlt⟩, ?_⟩
    cbv
    refine ⟨(i', b', o'), [0, 1, 2], q, by have hlt : i < (xs.length : Int) := hlt; show ((xs.length : Int) - i').toNat < ((xs.length : Int) - i).toNat; omega, ?_⟩
    cbv
    subst hE
    and_intros
    all_goals first
     | exact Sm.of hrow
     | exact congrArg (fun x => AV.v (Value.int .i64 x)) hii
     | (simp; done)
     | (trace_state; fail)
  ·have he : i = xs.length := by
    subst hE
    have h : Env.std.ic .lss i (Env.std.len Int xs) = false := h2
    have h : ¬ i < (xs.length : Int) := by simpa using h
    have := hi.i1
    omega
   have q := hi.last he hl hv
   have hc := trim_con o (by rw [hi.len]; omega)
   obtain ⟨n, hn⟩ : ∃ n, n = tlen o := ⟨_, rfl⟩
   rw [<- hn] at hc
   have hrow : Env.std.tk Int o xs.length = o := by
    rw [s_tk, List.take_of_length_le (by rw [hi.len]; omega)]
   have hres : Env.std.tk Int o n = r := by
    rw [s_tk, hn, Int.toNat_natCast, take_tlen hi.ok, q, hr]
   cbv
   refine CallTo.con hP hE hc ?_ ?_
   ·subst hE
    exact ⟨Sm.of hrow, trivial⟩
   ·cbv
    subst hE
    exact Sm.of hres
theorem minus_con (a b : Nat) (ha : (lb a).length <= 137438953472) (h : b <= a) : Con Tryz.prog 189 [.ro cU (lb a), .ro cU (lb b)] (.own 169 cU (lb (a - b))) :=
 minus_core _ _ _ (lb_ok a) (lb_ok b) ha (by
  refine Decidable.byContradiction fun c => ?_
  have := cmp_len (a := a) (b := b) (by omega)
  omega) (by rw [val_lb, val_lb]; omega) (by rw [val_lb, val_lb]; congr 1; omega)
end Go.Proofs.YtfdealobplcboaaGreat.Sx
