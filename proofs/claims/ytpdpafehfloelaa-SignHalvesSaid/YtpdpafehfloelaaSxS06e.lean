import Derived.Test.YtpdpafehfloelaaSxW06Se
import Derived.Test.YtpdpafehfloelaaSxAr
namespace Go.Sx.S4
theorem rightB {s:List Nat} (hs:∀ x ∈ s,x<256) (hl:s.length=32):g16ok realA s=true∧g16r0 realA s=decide (leval s<LL):=by
  by_cases hv:leval s<LL
  · rw [decide_eq_true hv]
    exact right hs hl hv
  · rw [decide_eq_false hv]
    obtain ⟨h1,h2⟩:=rd hs (by omega)
    have hne:¬ g27r0 realA s=s:=by
      intro e
      rw [h2] at e
      have h3:=congrArg leval e
      rw [leval_MM] at h3
      have:=Nat.mod_lt (leval s) LL_pos
      omega
    have e:g16v realA s=some (.v (.cell (.bool false))):=by
      unfold g16v
      generalize 100000=n
      unfold g16
      rw [eqlT (show realA.ofN s.length=32 by rw [hl]; rfl),h1,ar_sceq,decide_eq_false hne]
    exact ⟨by unfold g16ok; rw [e]; rfl,by unfold g16r0; rw [e]; rfl⟩
end Go.Sx.S4
