/- Temporaries, one by one. -/
import Derived.Test.YtbkeeghkpkfeiaaGreatDoorNsD
namespace Go.Proofs.YtbkeeghkpkfeiaaGreatDoor
set_option linter.unusedVariables false
set_option linter.unusedSimpArgs false
open Go.RowKit Go.Maps
namespace Ev
theorem cons_of {l : List Value} {n : Nat} (h : l.length = n + 1) : ∃ x m, l = x :: m ∧ m.length = n := by
  cases l with
  | nil => cases h
  | cons x m => exact ⟨x, m, rfl, by simpa using h⟩
theorem act_lit {a : Act} (hs : a.tmps.size = 96) (hd : a.defers = []) : ∃ v0 v1 v2 v3 v4 v5 v6 v7 v8 v9 v10 v11 v12 v13 v14 v15 v16 v17 v18 v19 v20 v21 v22 v23 v24 v25 v26 v27 v28 v29 v30 v31 v32 v33 v34 v35 v36 v37 v38 v39 v40 v41 v42 v43 v44 v45 v46 v47 v48 v49 v50 v51 v52 v53 v54 v55 v56 v57 v58 v59 v60 v61 v62 v63 v64 v65 v66 v67 v68 v69 v70 v71 v72 v73 v74 v75 v76 v77 v78 v79 v80 v81 v82 v83 v84 v85 v86 v87 v88 v89 v90 v91 v92 v93 v94 v95 : Value, a = { tmps := #[v0, v1, v2, v3, v4, v5, v6, v7, v8, v9, v10, v11, v12, v13, v14, v15, v16, v17, v18, v19, v20, v21, v22, v23, v24, v25, v26, v27, v28, v29, v30, v31, v32, v33, v34, v35, v36, v37, v38, v39, v40, v41, v42, v43, v44, v45, v46, v47, v48, v49, v50, v51, v52, v53, v54, v55, v56, v57, v58, v59, v60, v61, v62, v63, v64, v65, v66, v67, v68, v69, v70, v71, v72, v73, v74, v75, v76, v77, v78, v79, v80, v81, v82, v83, v84, v85, v86, v87, v88, v89, v90, v91, v92, v93, v94, v95], defers := [] } := by
  obtain ⟨⟨l0⟩, d⟩ := a
  have h0 : l0.length = 96 := hs
  have hd : d = [] := hd
  subst hd
  obtain ⟨v0, l1, rfl, h1⟩ := cons_of h0
  obtain ⟨v1, l2, rfl, h2⟩ := cons_of h1
  obtain ⟨v2, l3, rfl, h3⟩ := cons_of h2
  obtain ⟨v3, l4, rfl, h4⟩ := cons_of h3
  obtain ⟨v4, l5, rfl, h5⟩ := cons_of h4
  obtain ⟨v5, l6, rfl, h6⟩ := cons_of h5
  obtain ⟨v6, l7, rfl, h7⟩ := cons_of h6
  obtain ⟨v7, l8, rfl, h8⟩ := cons_of h7
  obtain ⟨v8, l9, rfl, h9⟩ := cons_of h8
  obtain ⟨v9, l10, rfl, h10⟩ := cons_of h9
  obtain ⟨v10, l11, rfl, h11⟩ := cons_of h10
  obtain ⟨v11, l12, rfl, h12⟩ := cons_of h11
  obtain ⟨v12, l13, rfl, h13⟩ := cons_of h12
  obtain ⟨v13, l14, rfl, h14⟩ := cons_of h13
  obtain ⟨v14, l15, rfl, h15⟩ := cons_of h14
  obtain ⟨v15, l16, rfl, h16⟩ := cons_of h15
  obtain ⟨v16, l17, rfl, h17⟩ := cons_of h16
  obtain ⟨v17, l18, rfl, h18⟩ := cons_of h17
  obtain ⟨v18, l19, rfl, h19⟩ := cons_of h18
  obtain ⟨v19, l20, rfl, h20⟩ := cons_of h19
  obtain ⟨v20, l21, rfl, h21⟩ := cons_of h20
  obtain ⟨v21, l22, rfl, h22⟩ := cons_of h21
  obtain ⟨v22, l23, rfl, h23⟩ := cons_of h22
  obtain ⟨v23, l24, rfl, h24⟩ := cons_of h23
  obtain ⟨v24, l25, rfl, h25⟩ := cons_of h24
  obtain ⟨v25, l26, rfl, h26⟩ := cons_of h25
  obtain ⟨v26, l27, rfl, h27⟩ := cons_of h26
  obtain ⟨v27, l28, rfl, h28⟩ := cons_of h27
  obtain ⟨v28, l29, rfl, h29⟩ := cons_of h28
  obtain ⟨v29, l30, rfl, h30⟩ := cons_of h29
  obtain ⟨v30, l31, rfl, h31⟩ := cons_of h30
  obtain ⟨v31, l32, rfl, h32⟩ := cons_of h31
  obtain ⟨v32, l33, rfl, h33⟩ := cons_of h32
  obtain ⟨v33, l34, rfl, h34⟩ := cons_of h33
  obtain ⟨v34, l35, rfl, h35⟩ := cons_of h34
  obtain ⟨v35, l36, rfl, h36⟩ := cons_of h35
  obtain ⟨v36, l37, rfl, h37⟩ := cons_of h36
  obtain ⟨v37, l38, rfl, h38⟩ := cons_of h37
  obtain ⟨v38, l39, rfl, h39⟩ := cons_of h38
  obtain ⟨v39, l40, rfl, h40⟩ := cons_of h39
  obtain ⟨v40, l41, rfl, h41⟩ := cons_of h40
  obtain ⟨v41, l42, rfl, h42⟩ := cons_of h41
  obtain ⟨v42, l43, rfl, h43⟩ := cons_of h42
  obtain ⟨v43, l44, rfl, h44⟩ := cons_of h43
  obtain ⟨v44, l45, rfl, h45⟩ := cons_of h44
  obtain ⟨v45, l46, rfl, h46⟩ := cons_of h45
  obtain ⟨v46, l47, rfl, h47⟩ := cons_of h46
  obtain ⟨v47, l48, rfl, h48⟩ := cons_of h47
  obtain ⟨v48, l49, rfl, h49⟩ := cons_of h48
  obtain ⟨v49, l50, rfl, h50⟩ := cons_of h49
  obtain ⟨v50, l51, rfl, h51⟩ := cons_of h50
  obtain ⟨v51, l52, rfl, h52⟩ := cons_of h51
  obtain ⟨v52, l53, rfl, h53⟩ := cons_of h52
  obtain ⟨v53, l54, rfl, h54⟩ := cons_of h53
  obtain ⟨v54, l55, rfl, h55⟩ := cons_of h54
  obtain ⟨v55, l56, rfl, h56⟩ := cons_of h55
  obtain ⟨v56, l57, rfl, h57⟩ := cons_of h56
  obtain ⟨v57, l58, rfl, h58⟩ := cons_of h57
  obtain ⟨v58, l59, rfl, h59⟩ := cons_of h58
  obtain ⟨v59, l60, rfl, h60⟩ := cons_of h59
  obtain ⟨v60, l61, rfl, h61⟩ := cons_of h60
  obtain ⟨v61, l62, rfl, h62⟩ := cons_of h61
  obtain ⟨v62, l63, rfl, h63⟩ := cons_of h62
  obtain ⟨v63, l64, rfl, h64⟩ := cons_of h63
  obtain ⟨v64, l65, rfl, h65⟩ := cons_of h64
  obtain ⟨v65, l66, rfl, h66⟩ := cons_of h65
  obtain ⟨v66, l67, rfl, h67⟩ := cons_of h66
  obtain ⟨v67, l68, rfl, h68⟩ := cons_of h67
  obtain ⟨v68, l69, rfl, h69⟩ := cons_of h68
  obtain ⟨v69, l70, rfl, h70⟩ := cons_of h69
  obtain ⟨v70, l71, rfl, h71⟩ := cons_of h70
  obtain ⟨v71, l72, rfl, h72⟩ := cons_of h71
  obtain ⟨v72, l73, rfl, h73⟩ := cons_of h72
  obtain ⟨v73, l74, rfl, h74⟩ := cons_of h73
  obtain ⟨v74, l75, rfl, h75⟩ := cons_of h74
  obtain ⟨v75, l76, rfl, h76⟩ := cons_of h75
  obtain ⟨v76, l77, rfl, h77⟩ := cons_of h76
  obtain ⟨v77, l78, rfl, h78⟩ := cons_of h77
  obtain ⟨v78, l79, rfl, h79⟩ := cons_of h78
  obtain ⟨v79, l80, rfl, h80⟩ := cons_of h79
  obtain ⟨v80, l81, rfl, h81⟩ := cons_of h80
  obtain ⟨v81, l82, rfl, h82⟩ := cons_of h81
  obtain ⟨v82, l83, rfl, h83⟩ := cons_of h82
  obtain ⟨v83, l84, rfl, h84⟩ := cons_of h83
  obtain ⟨v84, l85, rfl, h85⟩ := cons_of h84
  obtain ⟨v85, l86, rfl, h86⟩ := cons_of h85
  obtain ⟨v86, l87, rfl, h87⟩ := cons_of h86
  obtain ⟨v87, l88, rfl, h88⟩ := cons_of h87
  obtain ⟨v88, l89, rfl, h89⟩ := cons_of h88
  obtain ⟨v89, l90, rfl, h90⟩ := cons_of h89
  obtain ⟨v90, l91, rfl, h91⟩ := cons_of h90
  obtain ⟨v91, l92, rfl, h92⟩ := cons_of h91
  obtain ⟨v92, l93, rfl, h93⟩ := cons_of h92
  obtain ⟨v93, l94, rfl, h94⟩ := cons_of h93
  obtain ⟨v94, l95, rfl, h95⟩ := cons_of h94
  obtain ⟨v95, l96, rfl, h96⟩ := cons_of h95
  have h := List.eq_nil_of_length_eq_zero h96
  subst h
  exact ⟨v0, v1, v2, v3, v4, v5, v6, v7, v8, v9, v10, v11, v12, v13, v14, v15, v16, v17, v18, v19, v20, v21, v22, v23, v24, v25, v26, v27, v28, v29, v30, v31, v32, v33, v34, v35, v36, v37, v38, v39, v40, v41, v42, v43, v44, v45, v46, v47, v48, v49, v50, v51, v52, v53, v54, v55, v56, v57, v58, v59, v60, v61, v62, v63, v64, v65, v66, v67, v68, v69, v70, v71, v72, v73, v74, v75, v76, v77, v78, v79, v80, v81, v82, v83, v84, v85, v86, v87, v88, v89, v90, v91, v92, v93, v94, v95, rfl⟩
end Ev
end Go.Proofs.YtbkeeghkpkfeiaaGreatDoor
