/- The abstract code stands for the program's. -/
import Derived.Test.YtjjmechghfjbmaaVanKcode1
import Derived.Test.YtjjmechghfjbmaaChecked
import Derived.Test.YtjjmechghfjbmaaAmMatchCode
import Derived.KernelRfl
set_option linter.unusedVariables false
set_option linter.unusedSimpArgs false
set_option linter.unnecessarySimpa false
set_option maxRecDepth 100000
set_option maxHeartbeats 0
namespace Go.Proofs.Ytjjmechghfjbmaa
open Go Am Go.Proofs
theorem m7 : matchFunc Try.prog Try.f7 Cd.a7 = true := by kernel_rfl
theorem m16 : matchFunc Try.prog Try.f16 Cd.a16 = true := by kernel_rfl
theorem m18 : matchFunc Try.prog Try.f18 Cd.a18 = true := by kernel_rfl
theorem m20 : matchFunc Try.prog Try.f20 Cd.a20 = true := by kernel_rfl
theorem m21 : matchFunc Try.prog Try.f21 Cd.a21 = true := by kernel_rfl
theorem m23 : matchFunc Try.prog Try.f23 Cd.a23 = true := by kernel_rfl
theorem m24 : matchFunc Try.prog Try.f24 Cd.a24 = true := by kernel_rfl
theorem m26 : matchFunc Try.prog Try.f26 Cd.a26 = true := by kernel_rfl
theorem m27 : matchFunc Try.prog Try.f27 Cd.a27 = true := by kernel_rfl
theorem m29 : matchFunc Try.prog Try.f29 Cd.a29 = true := by kernel_rfl
theorem m31 : matchFunc Try.prog Try.f31 Cd.a31 = true := by kernel_rfl
theorem m33 : matchFunc Try.prog Try.f33 Cd.a33 = true := by kernel_rfl
theorem m35 : matchFunc Try.prog Try.f35 Cd.a35 = true := by kernel_rfl
theorem m37 : matchFunc Try.prog Try.f37 Cd.a37 = true := by kernel_rfl
theorem m38 : matchFunc Try.prog Try.f38 Cd.a38 = true := by kernel_rfl
theorem m39 : matchFunc Try.prog Try.f39 Cd.a39 = true := by kernel_rfl
theorem m56 : matchFunc Try.prog Try.f56 Cd.a56 = true := by kernel_rfl
theorem m57 : matchFunc Try.prog Try.f57 Cd.a57 = true := by kernel_rfl
theorem m58 : matchFunc Try.prog Try.f58 Cd.a58 = true := by kernel_rfl
theorem m59 : matchFunc Try.prog Try.f59 Cd.a59 = true := by kernel_rfl
theorem m64 : matchFunc Try.prog Try.f64 Cd.a64 = true := by kernel_rfl
theorem m65 : matchFunc Try.prog Try.f65 Cd.a65 = true := by kernel_rfl
theorem m68 : matchFunc Try.prog Try.f68 Cd.a68 = true := by kernel_rfl
theorem m70 : matchFunc Try.prog Try.f70 Cd.a70 = true := by kernel_rfl
theorem m72 : matchFunc Try.prog Try.f72 Cd.a72 = true := by kernel_rfl
theorem m75 : matchFunc Try.prog Try.f75 Cd.a75 = true := by kernel_rfl
theorem m76 : matchFunc Try.prog Try.f76 Cd.a76 = true := by kernel_rfl
theorem m77 : matchFunc Try.prog Try.f77 Cd.a77 = true := by kernel_rfl
theorem m78 : matchFunc Try.prog Try.f78 Cd.a78 = true := by kernel_rfl
theorem m80 : matchFunc Try.prog Try.f80 Cd.a80 = true := by kernel_rfl
theorem m82 : matchFunc Try.prog Try.f82 Cd.a82 = true := by kernel_rfl
theorem m83 : matchFunc Try.prog Try.f83 Cd.a83 = true := by kernel_rfl
theorem m84 : matchFunc Try.prog Try.f84 Cd.a84 = true := by kernel_rfl
theorem m90 : matchFunc Try.prog Try.f90 Cd.a90 = true := by kernel_rfl
theorem m91 : matchFunc Try.prog Try.f91 Cd.a91 = true := by kernel_rfl
theorem m92 : matchFunc Try.prog Try.f92 Cd.a92 = true := by kernel_rfl
theorem m93 : matchFunc Try.prog Try.f93 Cd.a93 = true := by kernel_rfl
theorem m94 : matchFunc Try.prog Try.f94 Cd.a94 = true := by kernel_rfl
theorem m95 : matchFunc Try.prog Try.f95 Cd.a95 = true := by kernel_rfl
theorem m98 : matchFunc Try.prog Try.f98 Cd.a98 = true := by kernel_rfl
theorem m99 : matchFunc Try.prog Try.f99 Cd.a99 = true := by kernel_rfl
theorem m100 : matchFunc Try.prog Try.f100 Cd.a100 = true := by kernel_rfl
theorem m101 : matchFunc Try.prog Try.f101 Cd.a101 = true := by kernel_rfl
theorem m102 : matchFunc Try.prog Try.f102 Cd.a102 = true := by kernel_rfl
theorem m103 : matchFunc Try.prog Try.f103 Cd.a103 = true := by kernel_rfl
theorem m104 : matchFunc Try.prog Try.f104 Cd.a104 = true := by kernel_rfl
theorem m106 : matchFunc Try.prog Try.f106 Cd.a106 = true := by kernel_rfl
theorem m107 : matchFunc Try.prog Try.f107 Cd.a107 = true := by kernel_rfl
theorem m108 : matchFunc Try.prog Try.f108 Cd.a108 = true := by kernel_rfl
theorem m109 : matchFunc Try.prog Try.f109 Cd.a109 = true := by kernel_rfl
theorem m110 : matchFunc Try.prog Try.f110 Cd.a110 = true := by kernel_rfl
theorem m111 : matchFunc Try.prog Try.f111 Cd.a111 = true := by kernel_rfl
theorem m115 : matchFunc Try.prog Try.f115 Cd.a115 = true := by kernel_rfl
theorem m116 : matchFunc Try.prog Try.f116 Cd.a116 = true := by kernel_rfl
theorem m117 : matchFunc Try.prog Try.f117 Cd.a117 = true := by kernel_rfl
theorem m118 : matchFunc Try.prog Try.f118 Cd.a118 = true := by kernel_rfl
theorem tabOk : TabOk Try.prog Cd.tab := by
  intro i af h
  unfold Cd.tab at h
  split at h
  · cases h; exact ⟨Try.f7, Try.func7, m7⟩
  · cases h; exact ⟨Try.f16, Try.func16, m16⟩
  · cases h; exact ⟨Try.f18, Try.func18, m18⟩
  · cases h; exact ⟨Try.f20, Try.func20, m20⟩
  · cases h; exact ⟨Try.f21, Try.func21, m21⟩
  · cases h; exact ⟨Try.f23, Try.func23, m23⟩
  · cases h; exact ⟨Try.f24, Try.func24, m24⟩
  · cases h; exact ⟨Try.f26, Try.func26, m26⟩
  · cases h; exact ⟨Try.f27, Try.func27, m27⟩
  · cases h; exact ⟨Try.f29, Try.func29, m29⟩
  · cases h; exact ⟨Try.f31, Try.func31, m31⟩
  · cases h; exact ⟨Try.f33, Try.func33, m33⟩
  · cases h; exact ⟨Try.f35, Try.func35, m35⟩
  · cases h; exact ⟨Try.f37, Try.func37, m37⟩
  · cases h; exact ⟨Try.f38, Try.func38, m38⟩
  · cases h; exact ⟨Try.f39, Try.func39, m39⟩
  · cases h; exact ⟨Try.f56, Try.func56, m56⟩
  · cases h; exact ⟨Try.f57, Try.func57, m57⟩
  · cases h; exact ⟨Try.f58, Try.func58, m58⟩
  · cases h; exact ⟨Try.f59, Try.func59, m59⟩
  · cases h; exact ⟨Try.f64, Try.func64, m64⟩
  · cases h; exact ⟨Try.f65, Try.func65, m65⟩
  · cases h; exact ⟨Try.f68, Try.func68, m68⟩
  · cases h; exact ⟨Try.f70, Try.func70, m70⟩
  · cases h; exact ⟨Try.f72, Try.func72, m72⟩
  · cases h; exact ⟨Try.f75, Try.func75, m75⟩
  · cases h; exact ⟨Try.f76, Try.func76, m76⟩
  · cases h; exact ⟨Try.f77, Try.func77, m77⟩
  · cases h; exact ⟨Try.f78, Try.func78, m78⟩
  · cases h; exact ⟨Try.f80, Try.func80, m80⟩
  · cases h; exact ⟨Try.f82, Try.func82, m82⟩
  · cases h; exact ⟨Try.f83, Try.func83, m83⟩
  · cases h; exact ⟨Try.f84, Try.func84, m84⟩
  · cases h; exact ⟨Try.f90, Try.func90, m90⟩
  · cases h; exact ⟨Try.f91, Try.func91, m91⟩
  · cases h; exact ⟨Try.f92, Try.func92, m92⟩
  · cases h; exact ⟨Try.f93, Try.func93, m93⟩
  · cases h; exact ⟨Try.f94, Try.func94, m94⟩
  · cases h; exact ⟨Try.f95, Try.func95, m95⟩
  · cases h; exact ⟨Try.f98, Try.func98, m98⟩
  · cases h; exact ⟨Try.f99, Try.func99, m99⟩
  · cases h; exact ⟨Try.f100, Try.func100, m100⟩
  · cases h; exact ⟨Try.f101, Try.func101, m101⟩
  · cases h; exact ⟨Try.f102, Try.func102, m102⟩
  · cases h; exact ⟨Try.f103, Try.func103, m103⟩
  · cases h; exact ⟨Try.f104, Try.func104, m104⟩
  · cases h; exact ⟨Try.f106, Try.func106, m106⟩
  · cases h; exact ⟨Try.f107, Try.func107, m107⟩
  · cases h; exact ⟨Try.f108, Try.func108, m108⟩
  · cases h; exact ⟨Try.f109, Try.func109, m109⟩
  · cases h; exact ⟨Try.f110, Try.func110, m110⟩
  · cases h; exact ⟨Try.f111, Try.func111, m111⟩
  · cases h; exact ⟨Try.f115, Try.func115, m115⟩
  · cases h; exact ⟨Try.f116, Try.func116, m116⟩
  · cases h; exact ⟨Try.f117, Try.func117, m117⟩
  · cases h; exact ⟨Try.f118, Try.func118, m118⟩
  · cases h
end Go.Proofs.Ytjjmechghfjbmaa
