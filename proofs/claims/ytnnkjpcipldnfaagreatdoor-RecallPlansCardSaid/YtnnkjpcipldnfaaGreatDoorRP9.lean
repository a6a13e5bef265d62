/- Texts of this session, put together. -/
import Derived.Test.YtnnkjpcipldnfaaGreatDoorRP8
section
set_option linter.unusedSimpArgs false
set_option linter.unusedVariables false
namespace Go.Proofs.YtnnkjpcipldnfaaGreatDoor.Lib
open Go Go.Proofs.YtnnkjpcipldnfaaGreatDoor.Mach
section
theorem txL_of {l:List ByteArray} (h:SzC (.slice eS) l):TxL l:=by
 simp only [SzC] at h
 obtain ⟨h1,_,h2⟩:=h
 have hb:bytesE eS=16:=rfl
 rw [hb] at h1
 have h1' : List.length (α:=ByteArray) l * 16≤140737488351232:=h1
 exact ⟨by omega,fun s hs=>Nat.le_trans (h2 s hs) (by decide)⟩
theorem lenI_of {l:List Int} (h:SzC (.slice eI) l):l.length≤1000000000000000:=by
 simp only [SzC] at h
 obtain ⟨h1,_,_⟩:=h
 have hb:bytesE eI=8:=rfl
 rw [hb] at h1
 have h1' : List.length (α:=Int) l * 8≤140737488351232:=h1
 omega
theorem txT_of {t:List Nd} (h:SzC (.slice eNode) t):TxT t:=by
 simp only [SzC] at h
 obtain ⟨h1,_,h2⟩:=h
 have hb:bytesE eNode=88:=rfl
 rw [hb] at h1
 have h1' : List.length (α:=Nd) t * 88≤140737488351232:=h1
 refine ⟨by omega,fun x hx=>?_⟩
 have h3:=h2 x hx
 obtain ⟨kd,pl,inf,nx,od,py⟩:=x
 simp only [SzE] at h3
 obtain ⟨_,_,_,h4,h5,h6⟩:=h3
 exact ⟨lenI_of h4,txL_of h5,Nat.le_trans h6 (by decide)⟩
theorem txC_of {s:List Ch} (h:SzC (.slice eCh) s):TxC s:=by
 simp only [SzC] at h
 obtain ⟨h1,_,h2⟩:=h
 have hb:bytesE eCh=32:=rfl
 rw [hb] at h1
 have h1' : List.length (α:=Ch) s * 32≤140737488351232:=h1
 refine ⟨by omega,fun x hx=>?_⟩
 have h3:=h2 x hx
 obtain ⟨f,od⟩:=x
 simp only [SzE] at h3
 exact txL_of h3.2
end
end Go.Proofs.YtnnkjpcipldnfaaGreatDoor.Lib
end
