import Derived.Test.YtnnepclpggbjgaaSxE03
namespace Go.Sx
/-- four words that stand for u -/
def Rep (a : List Nat) (u : Nat) : Prop := W4 a ∧ num a % PP = u ∧ u < PP
theorem rf {x : Nat} (h : x < PP) : Rep (fe x) x := ⟨fe_W4 x, by rw [num_fe (Nat.lt_trans h (by decide)), Nat.mod_eq_of_lt h], h⟩
theorem rW {a : List Nat} (h : W4 a) : Rep a (num a % PP) := ⟨h, rfl, Nat.mod_lt _ PP_pos⟩
theorem mulR {a b : List Nat} {u v : Nat} (ha : Rep a u) (hb : Rep b v) : g16ok realA a b = true ∧ g16r0 realA a b = fe (u * v % PP) := by
  obtain ⟨h1, h2⟩ := mulOk ha.1 hb.1
  refine ⟨h1, ?_⟩
  rw [h2, ← ha.2.1, ← hb.2.1, ← Nat.mul_mod]
  rfl
theorem rootE2 {a b : List Nat} {u v : Nat} (ra : Rep a u) (rb : Rep b v) : g21v realA a b = some (.tup [.agg [.nums .u64 4 (fe (rootN u v).1)], .cell (.bool (rootN u v).2)]) := by
  have m := fun x => Nat.mod_lt x PP_pos
  unfold g21v
  generalize 100000 = n
  have hu := ra.2.2
  have hv := rb.2.2
  obtain ⟨k1, x1, y1⟩ := load4 ra.1
  obtain ⟨k4, y4⟩ := store5 x1
  have want : g38r0 realA (g37r0 realA a) = fe (u % PP) := by
    rw [y4, fm_congr y1, ← ra.2.1, Nat.mod_mod]; rfl
  have ew : ((((([0, 0, 0, 0] : List Nat).set 0 18446744073709551613).set 1 18446744073709551615).set 2 18446744073709551615).set 3 1152921504606846975) = [18446744073709551613, 18446744073709551615, 18446744073709551615, 1152921504606846975] := rfl
  have ew2 : ((((([0, 0, 0, 0] : List Nat).set 0 18446744073709551611).set 1 18446744073709551615).set 2 18446744073709551615).set 3 2305843009213693951) = [18446744073709551611, 18446744073709551615, 18446744073709551615, 2305843009213693951] := rfl
  unfold g21
  rw [ew, ew2]
  rw [(mulR rb rb).1, (mulR rb rb).2]
  rw [(mulR rb (rf (m (v * v)))).1, (mulR rb (rf (m (v * v)))).2]
  rw [(mulFm (v * (v * v % PP) % PP) (v * (v * v % PP) % PP)).1, (mulFm (v * (v * v % PP) % PP) (v * (v * v % PP) % PP)).2 (m _) (m _)]
  rw [(mulR rb (rf (m ((v * (v * v % PP) % PP) * (v * (v * v % PP) % PP))))).1, (mulR rb (rf (m ((v * (v * v % PP) % PP) * (v * (v * v % PP) % PP))))).2]
  rw [(mulR ra (rf (m (v * (v * v % PP))))).1, (mulR ra (rf (m (v * (v * v % PP))))).2]
  rw [(mulR ra (rf (m (v * ((v * (v * v % PP) % PP) * (v * (v * v % PP) % PP) % PP))))).1, (mulR ra (rf (m (v * ((v * (v * v % PP) % PP) * (v * (v * v % PP) % PP) % PP))))).2]
  rw [(powFm (m (u * (v * ((v * (v * v % PP) % PP) * (v * (v * v % PP) % PP) % PP) % PP)))).1.1, (powFm (m (u * (v * ((v * (v * v % PP) % PP) * (v * (v * v % PP) % PP) % PP) % PP)))).1.2]
  rw [(mulFm _ _).1, (mulFm _ _).2 (m _) (pw_lt _ _)]
  rw [show u * (v * (v * v % PP) % PP) % PP * pw (u * (v * ((v * (v * v % PP) % PP) * (v * (v * v % PP) % PP) % PP) % PP) % PP) KK % PP = rootX u v from rfl]
  have hX : rootX u v < PP := m _
  have hC : rootC u v < PP := m _
  rw [k1, k4, (mulFm (rootX u v) (rootX u v)).1, (mulFm (rootX u v) (rootX u v)).2 hX hX]
  rw [(mulR rb (rf (m (rootX u v * rootX u v)))).1, (mulR rb (rf (m (rootX u v * rootX u v)))).2]
  rw [show v * (rootX u v * rootX u v % PP) % PP = rootC u v from rfl, want, lqF hC (m _)]
  obtain ⟨n1, n2⟩ := negFm (m u)
  obtain ⟨s1, s2⟩ := smallOk (x := 2) (by decide)
  rw [n1, n2, lqF hC (m _), s1, s2, (powFm (show 2 < PP by decide)).2.1, (powFm (show 2 < PP by decide)).2.2]
  rw [(mulFm (rootX u v) (pw 2 QQ)).1, (mulFm (rootX u v) (pw 2 QQ)).2 hX (pw_lt _ _)]
  rw [fin10 n _ hX, fin10 n _ (m _)]
  unfold rootN
  have hsw : Nat.beq (rootC u v) ((PP - u % PP) % PP) = Nat.beq ((rootC u v + u % PP) % PP) 0 := by
    have hw := m u
    generalize u % PP = w at *
    generalize rootC u v = c at *
    have : c = (PP - w) % PP ↔ (c + w) % PP = 0 := by unfold PP at *; omega
    cases h1 : Nat.beq c ((PP - w) % PP) with
    | true => rw [this.1 (beq_true h1)]; rfl
    | false =>
      cases h2 : Nat.beq ((c + w) % PP) 0 with
      | true => rw [← this.2 (beq_true h2)] at h1; simp [Nat.beq_refl] at h1
      | false => rfl
  rw [hsw, Bool.and_true, Bool.and_true]
  clear hsw n1 n2 s1 s2 ew ew2 k1 k4 x1 y1 y4 want m hX hC
  generalize finN (rootX u v) = X1
  generalize finN (rootX u v * pw 2 QQ % PP) = X2
  generalize Nat.beq ((rootC u v + u % PP) % PP) 0 = c2
  generalize Nat.beq (rootC u v) (u % PP) = c1
  cases c1 with
  | true => rfl
  | false =>
    cases c2 with
    | true => rfl
    | false =>
      show some (AV.tup [.agg [.nums .u64 4 [0, 0, 0, 0]], .cell (.bool false)]) = some (AV.tup [.agg [.nums .u64 4 (fe 0)], .cell (.bool false)])
      rw [show fe 0 = [0, 0, 0, 0] by decide]
theorem rootOk2 {a b : List Nat} {u v : Nat} (ra : Rep a u) (rb : Rep b v) : g21ok realA a b = true ∧ g21r0 realA a b = fe (rootN u v).1 ∧ g21r1 realA a b = (rootN u v).2 := by
  have e := rootE2 ra rb
  exact ⟨by unfold g21ok; rw [e]; rfl, by unfold g21r0; rw [e]; rfl, by unfold g21r1; rw [e]; rfl⟩
end Go.Sx
