/- The functions that are gone through. -/
import Derived.Test.YthbfflleggnoaaaGreatDoorVmExec
import Derived.Test.YthbfflleggnoaaaGreatDoorVmExt
import Derived.Test.YthbfflleggnoaaaGreatDoorVmWp
import Derived.Test.YthbfflleggnoaaaGreatDoorCodeA0
import Derived.Test.YthbfflleggnoaaaGreatDoorCodeA1
import Derived.KernelRfl
namespace Go.Vm.Tryz
open Go Go.Vm
def fns : List (Nat × SF) := [(3, s3), (7, s7), (8, s8), (9, s9), (10, s10), (11, s11), (12, s12), (31, s31), (32, s32), (33, s33), (34, s34), (67, s67), (68, s68), (69, s69), (70, s70), (71, s71), (72, s72), (73, s73), (74, s74), (75, s75), (76, s76), (77, s77), (79, s79), (82, s82), (83, s83), (84, s84), (85, s85), (86, s86), (89, s89), (90, s90), (113, s113), (114, s114), (115, s115), (116, s116), (117, s117), (118, s118), (120, s120), (121, s121), (122, s122), (123, s123), (124, s124), (125, s125), (126, s126), (127, s127), (129, s129), (131, s131), (132, s132), (139, s139), (140, s140), (141, s141), (142, s142), (143, s143), (148, s148), (149, s149), (150, s150), (151, s151), (155, s155), (160, s160), (166, s166), (167, s167), (168, s168), (169, s169), (180, s180), (181, s181), (182, s182), (183, s183), (184, s184), (185, s185), (188, s188), (189, s189), (190, s190), (191, s191), (192, s192), (193, s193), (194, s194), (195, s195), (196, s196), (197, s197), (198, s198), (199, s199), (203, s203), (205, s205), (207, s207), (208, s208), (211, s211), (214, s214), (215, s215), (217, s217), (218, s218), (219, s219), (221, s221), (222, s222), (223, s223), (224, s224), (225, s225), (226, s226), (227, s227), (229, s229), (230, s230), (231, s231), (240, s240), (241, s241), (250, s250), (251, s251), (252, s252), (254, s254), (258, s258), (260, s260), (262, s262), (263, s263), (264, s264), (267, s267), (269, s269), (270, s270), (272, s272), (273, s273), (283, s283), (284, s284), (285, s285), (288, s288), (290, s290), (295, s295), (308, s308), (314, s314), (322, s322)]
def fnOf (f : Nat) : Option SF := (fns.find? fun p => p.1 == f).map (·.2)
def extOf (f : Nat) : Option (List V → List HO → Option (CR × List HO)) :=
  if f = 91 then some xFromBits else
  if f = 294 then some xCount else
  if f = 337 then some xIndex else
  none
def X : Env := ⟨fnOf, extOf⟩
theorem v3 (a : List V) (h : List HO) : VC X 3 a h = endOf s3 h (run X [.c s3.body] (St.init a h)) := VC_run (X := X) rfl rfl rfl rfl a h
theorem v7 (a : List V) (h : List HO) : VC X 7 a h = endOf s7 h (run X [.c s7.body] (St.init a h)) := VC_run (X := X) rfl rfl rfl rfl a h
theorem v9 (a : List V) (h : List HO) : VC X 9 a h = endOf s9 h (run X [.c s9.body] (St.init a h)) := VC_run (X := X) rfl rfl rfl rfl a h
theorem v10 (a : List V) (h : List HO) : VC X 10 a h = endOf s10 h (run X [.c s10.body] (St.init a h)) := VC_run (X := X) rfl rfl rfl rfl a h
theorem v11 (a : List V) (h : List HO) : VC X 11 a h = endOf s11 h (run X [.c s11.body] (St.init a h)) := VC_run (X := X) rfl rfl rfl rfl a h
theorem v12 (a : List V) (h : List HO) : VC X 12 a h = endOf s12 h (run X [.c s12.body] (St.init a h)) := VC_run (X := X) rfl rfl rfl rfl a h
theorem v34 (a : List V) (h : List HO) : VC X 34 a h = endOf s34 h (run X [.c s34.body] (St.init a h)) := VC_run (X := X) rfl rfl rfl rfl a h
@[simp] theorem dr3_7 : drawOk [[], [0], [], [1, 2], [3], [4], [5], [5], [6, 7], [5], [5], [8, 9, 10], [11], [12], [13], [14], [14], [15, 16], [17], [18], [19], [20], [21]] r3_7 = true := by kernel_rfl
@[simp] theorem dr9_8 : drawOk [[], [], [1], [2], [0, 3], [], [5], [], [7], [8], [9], [6, 10], [4, 11]] r9_8 = true := by kernel_rfl
@[simp] theorem dr10_13 : drawOk [[], [], [1], [2], [], [3, 4], [], [6], [], [7, 8], [0, 5, 9], [10]] r10_13 = true := by kernel_rfl
@[simp] theorem dr12_11 : drawOk [[], [0], [], [1, 2], [3], [], [5], [], [6, 7], [8], [4, 9]] r12_11 = true := by kernel_rfl
@[simp] theorem dr34_11 : drawOk [[], [], [0, 1], [2], [], [], [4, 5], [6], [3, 7]] r34_11 = true := by kernel_rfl
theorem do3 : s3.drawsOk = true := by kernel_rfl
theorem do7 : s7.drawsOk = true := by kernel_rfl
theorem do8 : s8.drawsOk = true := by kernel_rfl
theorem do9 : s9.drawsOk = true := by kernel_rfl
theorem do10 : s10.drawsOk = true := by kernel_rfl
theorem do11 : s11.drawsOk = true := by kernel_rfl
theorem do12 : s12.drawsOk = true := by kernel_rfl
theorem do31 : s31.drawsOk = true := by kernel_rfl
theorem do32 : s32.drawsOk = true := by kernel_rfl
theorem do33 : s33.drawsOk = true := by kernel_rfl
theorem do34 : s34.drawsOk = true := by kernel_rfl
theorem do67 : s67.drawsOk = true := by kernel_rfl
theorem do68 : s68.drawsOk = true := by kernel_rfl
theorem do69 : s69.drawsOk = true := by kernel_rfl
theorem do70 : s70.drawsOk = true := by kernel_rfl
theorem do71 : s71.drawsOk = true := by kernel_rfl
theorem do72 : s72.drawsOk = true := by kernel_rfl
theorem do73 : s73.drawsOk = true := by kernel_rfl
theorem do74 : s74.drawsOk = true := by kernel_rfl
theorem do75 : s75.drawsOk = true := by kernel_rfl
theorem do76 : s76.drawsOk = true := by kernel_rfl
theorem do77 : s77.drawsOk = true := by kernel_rfl
theorem do79 : s79.drawsOk = true := by kernel_rfl
theorem do82 : s82.drawsOk = true := by kernel_rfl
theorem do83 : s83.drawsOk = true := by kernel_rfl
theorem do84 : s84.drawsOk = true := by kernel_rfl
theorem do85 : s85.drawsOk = true := by kernel_rfl
theorem do86 : s86.drawsOk = true := by kernel_rfl
theorem do89 : s89.drawsOk = true := by kernel_rfl
theorem do90 : s90.drawsOk = true := by kernel_rfl
theorem do113 : s113.drawsOk = true := by kernel_rfl
theorem do114 : s114.drawsOk = true := by kernel_rfl
theorem do115 : s115.drawsOk = true := by kernel_rfl
theorem do116 : s116.drawsOk = true := by kernel_rfl
theorem do117 : s117.drawsOk = true := by kernel_rfl
theorem do118 : s118.drawsOk = true := by kernel_rfl
theorem do120 : s120.drawsOk = true := by kernel_rfl
theorem do121 : s121.drawsOk = true := by kernel_rfl
theorem do122 : s122.drawsOk = true := by kernel_rfl
theorem do123 : s123.drawsOk = true := by kernel_rfl
theorem do124 : s124.drawsOk = true := by kernel_rfl
theorem do125 : s125.drawsOk = true := by kernel_rfl
theorem do126 : s126.drawsOk = true := by kernel_rfl
theorem do127 : s127.drawsOk = true := by kernel_rfl
theorem do129 : s129.drawsOk = true := by kernel_rfl
theorem do131 : s131.drawsOk = true := by kernel_rfl
theorem do132 : s132.drawsOk = true := by kernel_rfl
theorem do139 : s139.drawsOk = true := by kernel_rfl
theorem do140 : s140.drawsOk = true := by kernel_rfl
theorem do141 : s141.drawsOk = true := by kernel_rfl
theorem do142 : s142.drawsOk = true := by kernel_rfl
theorem do143 : s143.drawsOk = true := by kernel_rfl
theorem do148 : s148.drawsOk = true := by kernel_rfl
theorem do149 : s149.drawsOk = true := by kernel_rfl
theorem do150 : s150.drawsOk = true := by kernel_rfl
theorem do151 : s151.drawsOk = true := by kernel_rfl
theorem do155 : s155.drawsOk = true := by kernel_rfl
theorem do160 : s160.drawsOk = true := by kernel_rfl
theorem do166 : s166.drawsOk = true := by kernel_rfl
theorem do167 : s167.drawsOk = true := by kernel_rfl
theorem do168 : s168.drawsOk = true := by kernel_rfl
theorem do169 : s169.drawsOk = true := by kernel_rfl
theorem do180 : s180.drawsOk = true := by kernel_rfl
theorem do181 : s181.drawsOk = true := by kernel_rfl
theorem do182 : s182.drawsOk = true := by kernel_rfl
theorem do183 : s183.drawsOk = true := by kernel_rfl
theorem do184 : s184.drawsOk = true := by kernel_rfl
theorem do185 : s185.drawsOk = true := by kernel_rfl
theorem do188 : s188.drawsOk = true := by kernel_rfl
theorem do189 : s189.drawsOk = true := by kernel_rfl
theorem do190 : s190.drawsOk = true := by kernel_rfl
theorem do191 : s191.drawsOk = true := by kernel_rfl
theorem do192 : s192.drawsOk = true := by kernel_rfl
theorem do193 : s193.drawsOk = true := by kernel_rfl
theorem do194 : s194.drawsOk = true := by kernel_rfl
theorem do195 : s195.drawsOk = true := by kernel_rfl
theorem do196 : s196.drawsOk = true := by kernel_rfl
theorem do197 : s197.drawsOk = true := by kernel_rfl
theorem do198 : s198.drawsOk = true := by kernel_rfl
theorem do199 : s199.drawsOk = true := by kernel_rfl
theorem do203 : s203.drawsOk = true := by kernel_rfl
theorem do205 : s205.drawsOk = true := by kernel_rfl
theorem do207 : s207.drawsOk = true := by kernel_rfl
theorem do208 : s208.drawsOk = true := by kernel_rfl
theorem do211 : s211.drawsOk = true := by kernel_rfl
theorem do214 : s214.drawsOk = true := by kernel_rfl
theorem do215 : s215.drawsOk = true := by kernel_rfl
theorem do217 : s217.drawsOk = true := by kernel_rfl
theorem do218 : s218.drawsOk = true := by kernel_rfl
theorem do219 : s219.drawsOk = true := by kernel_rfl
theorem do221 : s221.drawsOk = true := by kernel_rfl
theorem do222 : s222.drawsOk = true := by kernel_rfl
theorem do223 : s223.drawsOk = true := by kernel_rfl
theorem do224 : s224.drawsOk = true := by kernel_rfl
theorem do225 : s225.drawsOk = true := by kernel_rfl
theorem do226 : s226.drawsOk = true := by kernel_rfl
theorem do227 : s227.drawsOk = true := by kernel_rfl
theorem do229 : s229.drawsOk = true := by kernel_rfl
theorem do230 : s230.drawsOk = true := by kernel_rfl
theorem do231 : s231.drawsOk = true := by kernel_rfl
theorem do240 : s240.drawsOk = true := by kernel_rfl
theorem do241 : s241.drawsOk = true := by kernel_rfl
theorem do250 : s250.drawsOk = true := by kernel_rfl
theorem do251 : s251.drawsOk = true := by kernel_rfl
theorem do252 : s252.drawsOk = true := by kernel_rfl
theorem do254 : s254.drawsOk = true := by kernel_rfl
theorem do258 : s258.drawsOk = true := by kernel_rfl
theorem do260 : s260.drawsOk = true := by kernel_rfl
theorem do262 : s262.drawsOk = true := by kernel_rfl
theorem do263 : s263.drawsOk = true := by kernel_rfl
theorem do264 : s264.drawsOk = true := by kernel_rfl
theorem do267 : s267.drawsOk = true := by kernel_rfl
theorem do269 : s269.drawsOk = true := by kernel_rfl
theorem do270 : s270.drawsOk = true := by kernel_rfl
theorem do272 : s272.drawsOk = true := by kernel_rfl
theorem do273 : s273.drawsOk = true := by kernel_rfl
theorem do283 : s283.drawsOk = true := by kernel_rfl
theorem do284 : s284.drawsOk = true := by kernel_rfl
theorem do285 : s285.drawsOk = true := by kernel_rfl
theorem do288 : s288.drawsOk = true := by kernel_rfl
theorem do290 : s290.drawsOk = true := by kernel_rfl
theorem do295 : s295.drawsOk = true := by kernel_rfl
theorem do308 : s308.drawsOk = true := by kernel_rfl
theorem do314 : s314.drawsOk = true := by kernel_rfl
theorem do322 : s322.drawsOk = true := by kernel_rfl
theorem drawsAll : ∀ p ∈ fns, p.2.drawsOk = true := by
  unfold fns
  simp only [List.forall_mem_cons]
  exact ⟨do3, do7, do8, do9, do10, do11, do12, do31, do32, do33, do34, do67, do68, do69, do70, do71, do72, do73, do74, do75, do76, do77, do79, do82, do83, do84, do85, do86, do89, do90, do113, do114, do115, do116, do117, do118, do120, do121, do122, do123, do124, do125, do126, do127, do129, do131, do132, do139, do140, do141, do142, do143, do148, do149, do150, do151, do155, do160, do166, do167, do168, do169, do180, do181, do182, do183, do184, do185, do188, do189, do190, do191, do192, do193, do194, do195, do196, do197, do198, do199, do203, do205, do207, do208, do211, do214, do215, do217, do218, do219, do221, do222, do223, do224, do225, do226, do227, do229, do230, do231, do240, do241, do250, do251, do252, do254, do258, do260, do262, do263, do264, do267, do269, do270, do272, do273, do283, do284, do285, do288, do290, do295, do308, do314, do322, by simp⟩
theorem draws_ok : ∀ f sf, X.fn f = some sf → sf.drawsOk = true := by
  intro f sf h
  obtain ⟨p, hp, rfl⟩ := Option.map_eq_some_iff.1 (show (fns.find? fun p => p.1 == f).map (·.2) = some sf from h)
  exact drawsAll p (List.mem_of_find?_eq_some hp)
end Go.Vm.Tryz
