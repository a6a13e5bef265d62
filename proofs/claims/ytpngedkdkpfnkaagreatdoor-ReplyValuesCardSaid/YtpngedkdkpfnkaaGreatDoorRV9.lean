/- Texts of this session, put together. -/
import Derived.Test.YtpngedkdkpfnkaaGreatDoorRV8
section
set_option linter.unusedSimpArgs false
set_option linter.unusedVariables false
namespace Go.Proofs.YtpngedkdkpfnkaaGreatDoor.Lib
open Go Go.Proofs.YtpngedkdkpfnkaaGreatDoor.Mach
section
theorem a28 {l:List ByteArray} (h:SzC (.slice eS) l):TxL l:=by
 simp only [SzC] at h
 obtain ⟨h1,_,h2⟩:=h
 have hb:oQ eS=16:=rfl
 rw [hb] at h1
 have h1' : List.length (α:=ByteArray) l * 16≤140737488351232:=h1
 exact ⟨by omega,fun s hs=>Nat.le_trans (h2 s hs) (by decide)⟩
theorem bLE {l:List Int} (h:SzC (.slice eI) l):l.length≤1000000000000000:=by
 simp only [SzC] at h
 obtain ⟨h1,_,_⟩:=h
 have hb:oQ eI=8:=rfl
 rw [hb] at h1
 have h1' : List.length (α:=Int) l * 8≤140737488351232:=h1
 omega
theorem bLF {t:List Nd} (h:SzC (.slice aT) t):TxT t:=by
 simp only [SzC] at h
 obtain ⟨h1,_,h2⟩:=h
 have hb:oQ aT=88:=rfl
 rw [hb] at h1
 have h1' : List.length (α:=Nd) t * 88≤140737488351232:=h1
 refine ⟨by omega,fun x hx=>?_⟩
 have h3:=h2 x hx
 obtain ⟨kd,pl,inf,nx,od,py⟩:=x
 simp only [SzE] at h3
 obtain ⟨_,_,_,h4,h5,h6⟩:=h3
 exact ⟨bLE h4,a28 h5,Nat.le_trans h6 (by decide)⟩
theorem a29 {s:List Ch} (h:SzC (.slice eCh) s):TxC s:=by
 simp only [SzC] at h
 obtain ⟨h1,_,h2⟩:=h
 have hb:oQ eCh=32:=rfl
 rw [hb] at h1
 have h1' : List.length (α:=Ch) s * 32≤140737488351232:=h1
 refine ⟨by omega,fun x hx=>?_⟩
 have h3:=h2 x hx
 obtain ⟨f,od⟩:=x
 simp only [SzE] at h3
 exact a28 h3.2
end
end Go.Proofs.YtpngedkdkpfnkaaGreatDoor.Lib
end
section
/- . -/
end
