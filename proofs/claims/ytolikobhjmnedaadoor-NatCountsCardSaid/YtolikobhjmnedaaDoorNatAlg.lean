/- Identities of whole numbers for the arithmetic on limbs: no program in sight. -/
import Derived.Test.YtolikobhjmnedaaDoorWWords
namespace Go.Proofs.YtolikobhjmnedaaDoor.NatAlg
theorem mul1 (O P m q o x y c B D : Int) (key : m + B * q = x * y + o + c) : O + P * (m - o) + P * B * (q + x * D) = O + P * (c + x * (y + B * D)) := by
  have : m = x * y + o + c - B * q := by omega
  subst this
  grind
theorem mul2 (O P B x D W : Int) : O + P * (x * W) + P * B * (D * W) = O + P * ((x + B * D) * W) := by grind
theorem short1 (x D d y a rest : Int) (hm : d * x + y = rest * 1000000000 + a) : (x + 1000000000 * D) * d + y = a + 1000000000 * (D * d + rest) := by
  have : y = rest * 1000000000 + a - d * x := by omega
  subst this
  grind
theorem minus1 (O P uu z s s' c q vv y D t : Int) (hD : t = c + q * vv) (ht : 1000000000 * y + z = t) :
    O + P * (uu - z - s + 1000000000 * s' - uu) - P * 1000000000 * (s' + y + q * D) = O - P * (s + c + q * (vv + 1000000000 * D)) := by
  have : z = c + q * vv - 1000000000 * y := by omega
  subst this
  grind
theorem plus1 (O P uu z y c vv D t : Int) (hD : t = uu + c + vv) (ht : 1000000000 * y + z = t) : O + P * (z - uu) + P * 1000000000 * (y + D) = O + P * (c + (vv + 1000000000 * D)) := by
  have : z = uu + c + vv - 1000000000 * y := by omega
  subst this
  grind
theorem est1 (x P V2 vl K : Int) : x * (P * V2 + vl) * K = K * P * (x * V2) + x * vl * K := by grind
theorem est2 (x P V2 vl K : Int) : (x - 1) * (P * V2 + vl) * K = x * (P * V2 + vl) * K - ((V2 * P) * K + vl * K) := by grind
theorem a1 (q d1 d2 B : Int) : (q - 1) * (d1 * B + d2) = (q * d1 - d1) * B + (q - 1) * d2 := by grind
theorem a2 (q d r : Int) : (q - 1) * d + (r + d) = q * d + r := by grind
theorem a3 (q d1 d2 B : Int) : q * (d1 * B + d2) = (q * d1) * B + q * d2 := by grind
theorem a4 (T Q u1 u2 u3 B : Int) : T + Q * (u3 + B * (u2 + B * u1)) = Q * ((u1 * B + u2) * B + u3) + T := by grind
theorem a5 (T Q d1 d2 B : Int) : T + Q * (d2 + B * d1) = Q * (d1 * B + d2) + T := by grind
theorem a6 (v K B : Int) : v * (K * B) = B * v * K := by grind
theorem a7 (K P d B : Int) : (B * K) * (P * ((d + 1) * B)) = K * P * ((d + 1) * B * B) := by grind
theorem a8 (v K B : Int) : (B * K) * v = B * v * K := by grind
theorem a9 (y d1 d2 B : Int) : (y + 1) * (d1 * B + d2) = (d1 * y + d1) * B + (y + 1) * d2 := by grind
theorem b1 (K y v : Int) : K * (y * v) = y * (v * K) := by grind
theorem b2 (K y v : Int) : (y + 1) * v * K = K * (y * v) + v * K := by grind
theorem b3 (y D Z X Y B : Int) : (y + B * D) * Z * X + (Y - Z * (y * X)) = D * (Z * B) * X + Y := by grind
theorem b4 (K x v : Int) : (x - 1) * v * K = K * (x * v) - K * v := by grind
theorem b5 (K x v : Int) : (x - 1 + 1) * v * K = K * (x * v) := by grind
theorem b6 (K x v : Int) : K * ((x - 1) * v) = K * (x * v) - K * v := by grind
theorem norm1 (O P o c m d : Int) (h : 10 * c + m = d) : O + P * 10 * (o + c - o) + P * (m - d) = O := by
  have : m = d - 10 * c := by omega
  subst this
  grind
theorem row1 (O P o x y D B : Int) : O + P * (o + x * y - o) + P * B * (x * D) = O + P * (x * (y + B * D)) := by grind
theorem row2 (P x D W B : Int) : P * ((x + B * D) * W) = P * (x * W) + P * (B * D * W) := by grind
theorem div1 (v p q m uq um c P : Int) {u : Int} (h1 : v * q + m = p) (h2 : v * uq + um = u) (h3 : P = 10 * p + c) (h4 : u = c + 10 * m) : (10 * q + uq) * v + um = P := by
  subst h3 h1
  have : um = c + 10 * m - v * uq := by omega
  subst this
  grind
theorem of1 (O P B q m : Int) : O + P * m + P * B * q = O + P * (B * q + m) := by grind
end Go.Proofs.YtolikobhjmnedaaDoor.NatAlg
