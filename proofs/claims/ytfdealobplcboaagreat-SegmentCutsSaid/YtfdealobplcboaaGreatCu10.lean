/- Part 10 of what the statement needs: an executor of Go texts, arithmetic, and contracts of the functions that are called. -/
import Derived.Test.YtfdealobplcboaaGreatCu9
set_option linter.unusedVariables false
set_option linter.unusedSimpArgs false
set_option maxRecDepth 100000
set_option maxHeartbeats 8000000
namespace Go.Proofs.YtfdealobplcboaaGreat.Sx
structure RunB (vs us u ws o : List Int) (i g j c b kk x y d b' c' j' : Int) (o' : List Int) : Prop where
 inv : BInv ws u i g j' c' b' o'
 con : Con Tryz.prog 215 [.v (.int .u32 x), .v (.int .u32 y), .v (.int .u32 b)] (.v (.tuple #[.int .u32 d, .int .u32 b']))
 ex : Env.std.get Int o (Env.std.ib .add .i64 i j) 0 = x
 ey : Env.std.cv .u32 (Env.std.ib .add .u64 c (Env.std.ib .mul .u64 g (Env.std.cv .u64 (Env.std.get Int vs j 0)))) = y
 ec : Env.std.ib .shr .u64 (Env.std.ib .add .u64 c (Env.std.ib .mul .u64 g (Env.std.cv .u64 (Env.std.get Int vs j 0)))) 32 = c'
 ej : Env.std.ib .add .i64 j 1 = j'
 eo : Env.std.set Int o (Env.std.ib .add .i64 i j) d = o'
 n1 : Env.std.inb j kk
 n2 : Env.std.inb (Env.std.ib .add .i64 i j) (Env.std.len Int us)
 mu : ((ws.length : Int) - j').toNat < ((ws.length : Int) - j).toNat
theorem BInv.run {vs us u ws o : List Int} {i g j c b kk : Int} (S : DS ws u i) (hkk : kk = ws.length) (hus : us.length = u.length) (hw : vs.take ws.length = ws) (hl : us.length <= 1099511627776) (G : GEnd ws u i g) (h : BInv ws u i g j c b o) (hj : j < kk) : ∃ x y d b' c' j' o', RunB vs us u ws o i g j c b kk x y d b' c' j' o' := by
 have hlen := S.len
 have hi := S.i0
 have hj0 := h.j0
 obtain ⟨t, ht⟩ : ∃ t, t = c + g * ws.getD j.toNat 0 := ⟨_, rfl⟩
 obtain ⟨d, hd⟩ : ∃ d, d = (o.getD (i + j).toNat 0 - t % 4294967296 - b) % 4294967296 := ⟨_, rfl⟩
 obtain ⟨b', hb'⟩ : ∃ d, d = - ((o.getD (i + j).toNat 0 - t % 4294967296 - b) / 4294967296) := ⟨_, rfl⟩
 obtain ⟨t0, t1, hB⟩ := h.step S G.g0 G.g1 (by omega) ht hd hb'
 have hx := h.ok.get (i + j).toNat
 have hy := S.vok.get j.toNat
 have hp := prod_lt G.g0 G.g1 hy.1 hy.2
 have w1 : Env.std.ib .add .i64 i j = i + j := by rw [s_add, w64 (by omega) (by omega)]
 have hv : vs.getD j.toNat 0 = ws.getD j.toNat 0 := by
  have h := take_getD (xs := vs) (n := ws.length) (j := j.toNat) (by omega)
  rw [hw] at h
  exact h.symm
 have et : Env.std.ib .add .u64 c (Env.std.ib .mul .u64 g (Env.std.cv .u64 (Env.std.get Int vs j 0))) = t := by
  have := h.c0
  have := G.g1
  rw [s_get, hv, s_cv, wu64 hy.1 (by omega), s_mul, wu64 hp.1 (by omega), s_add, <- ht, wu64 t0 t1]
 refine ⟨o.getD (i + j).toNat 0, t % 4294967296, d, b', t / 4294967296, j + 1, o.set (i + j).toNat d, ⟨hB, sub32_con _ _ _ _ _ hx.1 hx.2 (by omega) (by omega) h.b0 h.b1 hd hb', ?_, ?_, ?_, ?_, ?_, ?_, ?_, ?_⟩⟩
 ·rw [w1, s_get]
 ·rw [et, s_cv, IntKind.wrap_u32]
 ·rw [et]; exact Int.fdiv_eq_ediv_of_nonneg _ (by decide)
 ·rw [s_add, w64 (by omega) (by omega)]
 ·rw [w1, s_set]
 ·rw [s_inb]; omega
 ·rw [w1, s_len, s_inb]; omega
 ·omega
structure RunL (us u ws o : List Int) (i g c b kk x d b' : Int) (o' : List Int) : Prop where
 con : Con Tryz.prog 215 [.v (.int .u32 x), .v (.int .u32 c), .v (.int .u32 b)] (.v (.tuple #[.int .u32 d, .int .u32 b']))
 ex : Env.std.get Int o (Env.std.ib .add .i64 i kk) 0 = x
 ec : Env.std.cv .u32 c = c
 eo : Env.std.set Int o (Env.std.ib .add .i64 i kk) d = o'
 n1 : Env.std.inb (Env.std.ib .add .i64 i kk) (Env.std.len Int us)
 zero : b' = 0 -> DEnd ws u i g o'
 one : b' ≠ 0 -> Ok32 o' /\ o'.length = u.length /\ (∀ m, i.toNat + ws.length + 1 <= m -> o'.getD m 0 = 0) /\ val o' = val u - g * (val ws * 4294967296 ^ i.toNat) + 4294967296 ^ (i.toNat + ws.length + 1)
 eg : Env.std.cv .u32 g = g
theorem BInv.runL {us u ws o : List Int} {i g j c b kk : Int} (S : DS ws u i) (hkk : kk = ws.length) (hus : us.length = u.length) (hl : us.length <= 1099511627776) (G : GEnd ws u i g) (h : BInv ws u i g j c b o) (hj : ¬ j < kk) : ∃ x d b' o', RunL us u ws o i g c b kk x d b' o' := by
 have hlen := S.len
 have hi := S.i0
 have hj1 := h.j1
 have hjj : j = ws.length := by omega
 subst hkk
 obtain ⟨d, hd⟩ : ∃ d, d = (o.getD (i + ws.length).toNat 0 - c - b) % 4294967296 := ⟨_, rfl⟩
 obtain ⟨b', hb'⟩ : ∃ d, d = - ((o.getD (i + ws.length).toNat 0 - c - b) / 4294967296) := ⟨_, rfl⟩
 obtain ⟨p1, p2, p3, p4, p5, p6⟩ := h.last S hjj hd hb'
 have hx := h.ok.get (i + ws.length).toNat
 have w1 : Env.std.ib .add .i64 i (ws.length : Int) = i + ws.length := by rw [s_add, w64 (by omega) (by omega)]
 refine ⟨o.getD (i + ws.length).toNat 0, d, b', o.set (i + ws.length).toNat d, ⟨sub32_con _ _ _ _ _ hx.1 hx.2 h.c0 h.c1 h.b0 h.b1 hd hb', ?_, ?_, ?_, ?_, fun hz => ?_, fun hz => ⟨p4, p3, p5, ?_⟩, ?_⟩⟩
 ·rw [w1, s_get]
 ·rw [s_cv, wu32 h.c0 h.c1]
 ·rw [w1, s_set]
 ·rw [w1, s_len, s_inb]; omega
 ·rw [hz] at p6
  exact BInv.done S G.q p3 p4 p6
 ·have : b' = 1 := by omega
  rw [p6, this, Int.one_mul]
 ·rw [s_cv, wu32 G.g0 G.g1]
structure RunA (vs us o2 ws o : List Int) (i j s kk x y d s' j' : Int) (o' : List Int) : Prop where
 inv : AInv ws o2 i j' s' o'
 con : Con Tryz.prog 256 [.v (.int .u32 x), .v (.int .u32 y), .v (.int .u32 s)] (.v (.tuple #[.int .u32 d, .int .u32 s']))
 ex : Env.std.get Int o (Env.std.ib .add .i64 i j) 0 = x
 ey : Env.std.get Int vs j 0 = y
 ej : Env.std.ib .add .i64 j 1 = j'
 eo : Env.std.set Int o (Env.std.ib .add .i64 i j) d = o'
 n1 : Env.std.inb j kk
 n2 : Env.std.inb (Env.std.ib .add .i64 i j) (Env.std.len Int us)
 mu : ((ws.length : Int) - j').toNat < ((ws.length : Int) - j).toNat
theorem AInv.run {vs us u o2 ws o : List Int} {i j s kk : Int} (S : DS ws u i) (hkk : kk = ws.length) (hus : us.length = u.length) (hw : vs.take ws.length = ws) (hl : us.length <= 1099511627776) (h2 : o2.length = u.length) (h : AInv ws o2 i j s o) (hj : j < kk) : ∃ x y d s' j' o', RunA vs us o2 ws o i j s kk x y d s' j' o' := by
 have hlen := S.len
 have hi := S.i0
 have hj0 := h.j0
 obtain ⟨d, hd⟩ : ∃ d, d = (o.getD (i + j).toNat 0 + ws.getD j.toNat 0 + s) % 4294967296 := ⟨_, rfl⟩
 obtain ⟨s', hs'⟩ : ∃ d, d = (o.getD (i + j).toNat 0 + ws.getD j.toNat 0 + s) / 4294967296 := ⟨_, rfl⟩
 have hB := h.step S.vok hi (by omega) (by omega) hd hs'
 have hx := h.ok.get (i + j).toNat
 have hy := S.vok.get j.toNat
 have w1 : Env.std.ib .add .i64 i j = i + j := by rw [s_add, w64 (by omega) (by omega)]
 have hv : vs.getD j.toNat 0 = ws.getD j.toNat 0 := by
  have h := take_getD (xs := vs) (n := ws.length) (j := j.toNat) (by omega)
  rw [hw] at h
  exact h.symm
 refine ⟨o.getD (i + j).toNat 0, ws.getD j.toNat 0, d, s', j + 1, o.set (i + j).toNat d, ⟨hB, add32_con _ _ _ _ _ hx.1 hx.2 hy.1 hy.2 h.s0 h.s1 hd hs', ?_, ?_, ?_, ?_, ?_, ?_, ?_⟩⟩
 ·rw [w1, s_get]
 ·rw [s_get, hv]
 ·rw [s_add, w64 (by omega) (by omega)]
 ·rw [w1, s_set]
 ·rw [s_inb]; omega
 ·rw [w1, s_len, s_inb]; omega
 ·omega
structure RunE (us u ws o : List Int) (i g s kk g' : Int) (o' : List Int) : Prop where
 eo : Env.std.set Int o (Env.std.ib .add .i64 i kk) (Env.std.ib .add .u32 (Env.std.get Int o (Env.std.ib .add .i64 i kk) 0) s) = o'
 n1 : Env.std.inb (Env.std.ib .add .i64 i kk) (Env.std.len Int us)
 eg : Env.std.cv .u32 (Env.std.ib .sub .u64 g 1) = g'
 fin : DEnd ws u i g' o'
theorem AInv.runE {us u o2 ws o : List Int} {i g j s kk : Int} (S : DS ws u i) (hkk : kk = ws.length) (hus : us.length = u.length) (hl : us.length <= 1099511627776) (G : GEnd ws u i g)
  (h2 : Ok32 o2 /\ o2.length = u.length /\ (∀ m, i.toNat + ws.length + 1 <= m -> o2.getD m 0 = 0) /\ val o2 = val u - g * (val ws * 4294967296 ^ i.toNat) + 4294967296 ^ (i.toNat + ws.length + 1))
  (h : AInv ws o2 i j s o) (hj : ¬ j < kk) : ∃ g' o', RunE us u ws o i g s kk g' o' := by
 have hlen := S.len
 have hi := S.i0
 have hj1 := h.j1
 have hjj : j = ws.length := by omega
 subst hkk
 obtain ⟨d, hd⟩ : ∃ d, d = (o.getD (i + ws.length).toNat 0 + s) % 4294967296 := ⟨_, rfl⟩
 have hf := AInv.last (g := g) S h2.2.1 G.q1 h2.2.2.1 h2.1 h2.2.2.2 h hjj hd
 have hx := h.ok.get (i + ws.length).toNat
 have w1 : Env.std.ib .add .i64 i (ws.length : Int) = i + ws.length := by rw [s_add, w64 (by omega) (by omega)]
 have hq : 0 <= dQ ws u i := by
  obtain ⟨W, Y, p, low, vl, G', hN⟩ := S.dg
  exact G'.q.1
 have hg1 : 0 <= g - 1 := by
  have h1 : g - 1 = dQ ws u i := hf.eg
  omega
 have := G.g1
 refine ⟨g - 1, o.set (i + ws.length).toNat d, ⟨?_, ?_, ?_, hf⟩⟩
 ·rw [w1, s_set, s_get, s_add, IntKind.wrap_u32, hd]
 ·rw [w1, s_len, s_inb]; omega
 ·rw [s_sub, wu64 hg1 (by omega), s_cv, wu32 hg1 (by omega)]
end Go.Proofs.YtfdealobplcboaaGreat.Sx
